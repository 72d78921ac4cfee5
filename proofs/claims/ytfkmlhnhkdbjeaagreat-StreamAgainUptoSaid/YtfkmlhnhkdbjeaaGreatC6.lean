/- StreamAgain: a part of the proof. -/
import Derived.Test.YtfkmlhnhkdbjeaaGreatC5
set_option linter.all false
namespace Go.Proofs.YtfkmlhnhkdbjeaaGreat
open Go.Proofs.Tryz
set_option maxRecDepth 100000
set_option maxHeartbeats 4000000
namespace sx
noncomputable section
open Go Go.RowKit cls syn
variable {s:Ps} {G:List Gt} {A:Ps->Ps×List Nd} {l:List (List Nd)}
def JE (y:(((List Int)×(List Int))×cm)×Int):Prop:=let g:=(fy y).1;let q1:=((g.i:Nat):Int);let n:=((g.ae:Nat):Int);let h:=(y.1.1.1,y.1.1.2);let f:=(h,cm.mk y.1.2.i 0 y.1.2.ae y.1.2.au y.1.2.wh);let j:=(iT (f,y.2)).1;let k:=λp:Prop=>aa [y.1.1.1,y.1.1.2] p;Iv ((fS f/\Vg (f,y.2))/\(mB (f,y.2)+3)<(mB y+4))/\aa [y.2] (aa [y.1.1.1,y.1.1.2] (aa [y.1.2.i,y.1.2.ae,y.1.2.au,y.1.2.wh] ((∃z:cm×(List (List Nd)),aa [y.2] (([(iT (f,y.2)).2]:List (List Nd))=z.2/\k (((j.i:Nat):Int)=z.1.i/\((j.ae:Nat):Int)=z.1.ae/\j.au=z.1.au/\j.wh=z.1.wh/\(Iv (MK y z)))))/\(∀x:cm×(List (List Nd)),let l:=ay .i64 x.1.i 1;let m:=cm.mk x.1.i 0 x.1.ae x.1.au x.1.wh;let o:=bd (gq h) (nn m) 124;let c:=(h,cm.mk l 0 x.1.ae x.1.au x.1.wh);let a:=(c,y.2);let b:=(iT a).1;let d:=bn x.2 [(iT a).2];let e:Prop:=(Iv (total x.2<=100000/\x.2.length<=100000)/\aa ([4]:List Int) (aa [x.2] (b9 4 x.2=(fy y).2/\k (x.1.i=q1/\x.1.ae=n/\x.1.au=g.au/\x.1.wh=g.wh/\True))));(Iv (MK y x))->aj (aE x.1.au 0) (Iv (fS (h,m)/\(0:Int)<=(124:Int)/\(124:Int)<=(127:Int))/\aa ([124]:List Int) (aa [y.1.1.1,y.1.1.2] (aa [x.1.i,x.1.ae,x.1.au,x.1.wh] (aj o (Iv ((fS c/\Vg a)/\(mB a+3)<(mB y+4))/\aa [y.2] (aa [y.1.1.1,y.1.1.2] (aa [l,x.1.ae,x.1.au,x.1.wh] (ba (ab d) 24/\∃z:cm×(List (List Nd)),aa [y.2] (d=z.2/\k (((b.i:Nat):Int)=z.1.i/\((b.ae:Nat):Int)=z.1.ae/\b.au=z.1.au/\b.wh=z.1.wh/\(Iv (MK y z/\BC y z<BC y x)))))))) (e))))) (e)))))
def Vh:∀y,JE y=QlK y:=λy=>by kernel_rfl
def JF (y:(((List Int)×(List Int))×cm)×Int):Prop:=let h:=(iT y).1;let q1:=(iT y).2;let k:=((h.i:Nat):Int);let l:=((h.ae:Nat):Int);let d:=(y.1.1.1,y.1.1.2);let j:=λp:Prop=>aa [y.1.1.1,y.1.1.2] p;(∃z:cm×(List (List Nd)),aa [y.2] ([]=z.2/\j (y.1.2.i=z.1.i/\y.1.2.ae=z.1.ae/\y.1.2.au=z.1.au/\y.1.2.wh=z.1.wh/\(Iv (ML y z)))))/\(∀x:cm×(List (List Nd)),let m:=aD x.1.i (ab y.1.1.1);let e:=cm.mk x.1.i 0 x.1.ae x.1.au x.1.wh;let n:=!(bd (gq d) (nn e) 41);let o:=!(bd (gq d) (nn e) 124);let a:=((d,e),y.2);let b:=(kH a).1;let f:=bn x.2 [(kH a).2];let c:Prop:=(Iv (total x.2<=100000/\x.2.length<=100000)/\aa ([3]:List Int) (aa [x.2] (b9 3 x.2=q1/\j (x.1.i=k/\x.1.ae=l/\x.1.au=h.au/\x.1.wh=h.wh/\True))));let g:Prop:=(aa [x.1.au,x.1.i] (aa [y.1.1.1] (c)));(Iv (ML y x))->aj (aE x.1.au 0) (aj m (Iv (fS (d,e)/\(0:Int)<=(124:Int)/\(124:Int)<=(127:Int))/\aa ([124]:List Int) (aa [y.1.1.1,y.1.1.2] (aa [x.1.i,x.1.ae,x.1.au,x.1.wh] (aj o (Iv (fS (d,e)/\(0:Int)<=(41:Int)/\(41:Int)<=(127:Int))/\aa ([41]:List Int) (aa [y.1.1.1,y.1.1.2] (aa [x.1.i,x.1.ae,x.1.au,x.1.wh,x.1.au,x.1.i] (aa [y.1.1.1] (aj n (Iv ((fS (d,e)/\ltP a)/\(mB a+2)<(mB y+3))/\aa [y.2] (aa [y.1.1.1,y.1.1.2] (aa [x.1.i,x.1.ae,x.1.au,x.1.wh] (ba (ab f) 24/\∃z:cm×(List (List Nd)),aa [y.2] (f=z.2/\j (((b.i:Nat):Int)=z.1.i/\((b.ae:Nat):Int)=z.1.ae/\b.au=z.1.au/\b.wh=z.1.wh/\(Iv (ML y z/\BC y z<BC y x)))))))) (c)))))) (g))))) (g)) (aa [x.1.au] (c)))
def Vi:∀y,JF y=QlL y:=λy=>by kernel_rfl
def JG (y:(((List Int)×(List Int))×cm)×Int):Prop:=let r:=(kH y).1;let q1:=(kH y).2;let c:=(nR y).1;let H:=((r.i:Nat):Int);let s:=(nR y).2.2;let I:=((r.ae:Nat):Int);let t:=(nR y).2.1;let u:=((c.i:Nat):Int);let D:=((c.ae:Nat):Int);let f:=y.1.1.1;let g:=(f,y.1.1.2);let v:=cm.mk u 0 D c.au c.wh;let w:=(g,cm.mk y.1.2.i 0 y.1.2.ae y.1.2.au y.1.2.wh);let F:=bd (gq g) (nn v) 63;let h:=(w,y.2);let j:=(gG h).2;let a:=(gG h).1;let k:=((a.ae:Nat):Int);let b:=((a.i:Nat):Int);let G:=aM (ab f) b;let d:=gt 0 f b.toNat;let A:=bn [Nd.mk 5 [] t s true 0 1] j;let B:=bn [Nd.mk 5 [] t s false 0 1] j;let e:=(g,cm.mk b 0 k a.au a.wh);let l:=(sq e).1;let q:=λp:Prop=>aa [f,y.1.1.2] p;let m:=λp:Prop=>aa [j] (aa ([5]:List Int) p);let E:=λp:Prop=>aa ([0,1]:List Int) (aa [f,y.1.1.2] p);let C:Prop:=(D=I/\c.au=r.au/\c.wh=r.wh/\True);let n:Prop:=(false=false/\E (ay .i64 b 1=u/\k=D/\a.au=c.au/\a.wh=c.wh/\(Iv (BD y))));let o:Prop:=(j=q1/\q (b=H/\k=I/\a.au=r.au/\a.wh=r.wh/\True));Iv ((fS w/\ltP h)/\(mB h+1)<(mB y+2))/\aa [y.2] (aa [f,y.1.1.2] (aa [y.1.2.i,y.1.2.ae,y.1.2.au,y.1.2.wh] (aj (!(aE a.au 0)) (aa [a.au] (o)) (aa [a.au,b] (aa [f] (aj G (o) ((aM 0 b/\aD b (ab f)/\aa [f] (aa [b,d] (aj (aE d 42) (∃z:Unit,m (0=t/\(-1)=s/\n)) (aj (aE d 43) (∃z:Unit,m (1=t/\(-1)=s/\n)) (aj (aE d 63) (∃z:Unit,m (0=t/\1=s/\n)) (aj (aE d 123) (Iv (fS e/\U' e)/\aa [f,y.1.1.2] (aa [b,k,a.au,a.wh] (∃z:Unit,m ((sq e).2.1=t/\(sq e).2.2=s/\false=false/\E (((l.i:Nat):Int)=u/\((l.ae:Nat):Int)=D/\l.au=c.au/\l.wh=c.wh/\(Iv (BD y))))))) (o)))))))/\(∀x:Unit,(Iv (BD y))->Iv (fS (g,v)/\(0:Int)<=(63:Int)/\(63:Int)<=(127:Int))/\aa ([63]:List Int) (aa [f,y.1.1.2] (aa [u,D,c.au,c.wh] (aj F (ba (ab A) 72/\A=q1/\q (ay .i64 u 1=H/\C)) (ba (ab B) 72/\B=q1/\q (u=H/\C)))))))))))))
def Vj:∀y,JG y=QlM y:=λy=>by kernel_rfl
def JH (y:(((List Int)×(List Int))×cm)×Int):Prop:=let f:=(gG y).1;let q1:=(gG y).2;let s:=((f.ae:Nat):Int);let t:=((f.i:Nat):Int);let j:=y.1.1.1;let n:=ay .i64 y.1.2.i 1;let a:=gt 0 j y.1.2.i.toNat;let v:=(j,y.1.1.2);let e:=aq (gq v) y.1.2.i.toNat;let w:=([(a,a)]:List (Int×Int));let b:=(v,cm.mk n 0 y.1.2.ae y.1.2.au y.1.2.wh);let o:=(uI (b,e)).2;let k:=(yI (b,e)).1;let l:=(uI (b,e)).1;let q:=(yI (b,e)).2;let r:=gd (b,(y.2,e));let g:=rW (b,(y.2,e));let u:=λp:Prop=>aa [e] (aa [j,y.1.1.2] (aa [n,y.1.2.ae,y.1.2.au,y.1.2.wh] p));let h:=λp:Prop=>aa [j,y.1.1.2] p;let m:Prop:=(h (n=t/\y.1.2.ae=s/\y.1.2.au=f.au/\y.1.2.wh=f.wh/\True));let c:Prop:=(Iv True/\aa [w] (([xZ w]:List Nd)=q1/\m));let d:Prop:=(Iv (fS b/\True)/\aa ([4,e]:List Int) (aa [j,y.1.1.2] (aa [n,y.1.2.ae,y.1.2.au,y.1.2.wh] ([]=q1/\h (n=t/\y.1.2.ae=s/\cL (aE y.1.2.au 0) 4 y.1.2.au=f.au/\cL (aE y.1.2.au 0) e y.1.2.wh=f.wh/\True)))));Iv (fS (v,cm.mk y.1.2.i 0 y.1.2.ae y.1.2.au y.1.2.wh)/\y.1.2.i<=(j.length:Int))/\aa [j,y.1.1.2] (aa [y.1.2.i,y.1.2.ae,y.1.2.au,y.1.2.wh] (aM 0 y.1.2.i/\aD y.1.2.i (ab j)/\aa [j] (aa [y.1.2.i,a] (aj (aE a 40) (Iv ((fS b/\Vg r/\yH (gq v) e)/\mB r<(mB y+1))/\aa [y.2,e] (aa [j,y.1.1.2] (aa [n,y.1.2.ae,y.1.2.au,y.1.2.wh] (g.2=q1/\h (((g.1.i:Nat):Int)=t/\((g.1.ae:Nat):Int)=s/\g.1.au=f.au/\g.1.wh=f.wh/\True))))) (aj (aE a 91) (Iv (fS b/\Pj (b,e))/\u (Iv True/\aa [q] (([xZ q]:List Nd)=q1/\h (((k.i:Nat):Int)=t/\((k.ae:Nat):Int)=s/\k.au=f.au/\k.wh=f.wh/\True)))) (aj (aE a 46) (Iv (1<=2000000)/\aa ([[(10,10)]]:List (List (Int×Int))) (Iv True/\aa [l9 [(10,10)]] (([xZ (l9 [(10,10)])]:List Nd)=q1/\m))) (aj (aE a 94) (([Nd.mk 7 [] 0 0 false 0 0]:List Nd)=q1/\m) (aj (aE a 36) (([Nd.mk 8 [] 0 0 false 0 0]:List Nd)=q1/\m) (aj (aE a 92) (Iv (fS b/\Pj (b,e))/\u (Iv True/\aa [o] (([xZ o]:List Nd)=q1/\h (((l.i:Nat):Int)=t/\((l.ae:Nat):Int)=s/\l.au=f.au/\l.wh=f.wh/\True)))) (aj (aE a 42) (aj (aE a 42) (d) (c)) (aj (aE a 43) (aj (aE a 43) (d) (c)) (aj (aE a 63) (aj (aE a 63) (d) (c)) (aj (aE a 123) (aj (aE a 123) (d) (c)) (aj (aE a 125) (aj (aE a 125) (d) (c)) (aj (aE a 93) (aj (aE a 93) (d) (c)) (aj (aE a 41) (aj (aE a 41) (d) (c)) (aj (aE a 124) (aj (aE a 124) (d) (c)) (aj (aE a (-1)) (d) (c)))))))))))))))))))
def Vk:∀y,JH y=QlN y:=λy=>by kernel_rfl
def JI (y:(((List Int)×(List Int))×cm)×Int×Int):Prop:=let k:=(rW y).1;let q1:=(rW y).2;let x:=((k.i:Nat):Int);let C:=((k.ae:Nat):Int);let c:=y.1.1.1;let l:=ay .i64 y.2.1 1;let K:=aM 4 y.1.2.ae;let F:=aE y.1.2.au 0;let J:=ay .i64 y.1.2.i 2;let G:=ay .i64 y.1.2.i 1;let r:=ay .i64 y.1.2.ae 1;let a:=(c,y.1.1.2);let b:=gq a;let v:=gt 0 c G.toNat;let f:=cm.mk y.1.2.i 0 y.1.2.ae y.1.2.au y.1.2.wh;let w:=bd b (nn f) 63;let g:=(a,cm.mk y.1.2.i 0 r y.1.2.au y.1.2.wh);let h:=(a,cm.mk J 0 y.1.2.ae y.1.2.au y.1.2.wh);let d:=(fy (h,l)).1;let e:=(fy (g,l)).1;let s:=((d.i:Nat):Int);let z:=((e.ae:Nat):Int);let A:=((d.ae:Nat):Int);let t:=((e.i:Nat):Int);let B:=bn [Nd.mk 6 [] 0 0 false r 1] (fy (g,l)).2;let m:=cm.mk t 0 z e.au e.wh;let n:=cm.mk s 0 A d.au d.wh;let H:=bd b (nn n) 41;let I:=bd b (nn m) 41;let o:=ite (d.au=0/\H=false) (Ps.aA b (nn n) (ix b y.2.2) 4) (nn n);let q:=ite (e.au=0/\I=false) (Ps.aA b (nn m) (ix b y.2.2) 4) (nn m);let j:=λp:Prop=>aa [c,y.1.1.2] p;let u:Prop:=(cL F y.2.2 y.1.2.wh=k.wh/\True);let D:Prop:=(Iv (fS (a,f)/\True)/\aa ([4,y.2.2]:List Int) (aa [c,y.1.1.2] (aa [y.1.2.i,y.1.2.ae,y.1.2.au,y.1.2.wh] ([]=q1/\j (y.1.2.i=x/\y.1.2.ae=C/\cL F 4 y.1.2.au=k.au/\u)))));let E:Prop:=(aj (aM 20 y.2.1) (Iv (fS (a,f)/\True)/\aa ([10,y.2.2]:List Int) (aa [c,y.1.1.2] (aa [y.1.2.i,y.1.2.ae,y.1.2.au,y.1.2.wh] ([]=q1/\j (y.1.2.i=x/\y.1.2.ae=C/\cL F 10 y.1.2.au=k.au/\u))))) (aj w (Iv ((fS h/\Vg (h,l))/\(mB (h,l)+4)<(mB (gd y)+0))/\aa [l] (aa [c,y.1.1.2] (aa [J,y.1.2.ae,y.1.2.au,y.1.2.wh] (Iv (fS (a,n)/\s<=90000/\yH b y.2.2)/\aa [y.2.2] (aa [c,y.1.1.2] (aa [s,A,d.au,d.wh] ((fy (h,l)).2=q1/\j (((o.i+1:Nat):Int)=x/\((o.ae:Nat):Int)=C/\o.au=k.au/\o.wh=k.wh/\True)))))))) (aj K (Iv (fS (a,f)/\True)/\aa ([13,y.2.2]:List Int) (aa [c,y.1.1.2] (aa [y.1.2.i,y.1.2.ae,y.1.2.au,y.1.2.wh] ([]=q1/\j (y.1.2.i=x/\y.1.2.ae=C/\cL F 13 y.1.2.au=k.au/\u))))) (Iv ((fS g/\Vg (g,l))/\(mB (g,l)+4)<(mB (gd y)+0))/\aa [l] (aa [c,y.1.1.2] (aa [y.1.2.i,r,y.1.2.au,y.1.2.wh] (Iv (fS (a,m)/\t<=90000/\yH b y.2.2)/\aa [y.2.2] (aa [c,y.1.1.2] (aa [t,z,e.au,e.wh] (ba (ab B) 72/\B=q1/\j (((q.i+1:Nat):Int)=x/\((q.ae:Nat):Int)=C/\q.au=k.au/\q.wh=k.wh/\True)))))))))));Iv (fS (a,f)/\(0:Int)<=(63:Int)/\(63:Int)<=(127:Int))/\aa ([63]:List Int) (aa [c,y.1.1.2] (aa [y.1.2.i,y.1.2.ae,y.1.2.au,y.1.2.wh] (aj w (aj (aM (ab c) G) (aa [y.1.2.i] (aa [c] (D))) (aM 0 G/\aD G (ab c)/\aa [y.1.2.i] (aa [c,c] (aa [y.1.2.i,v] (aj (!(aE v 58)) (D) (E)))))) (E))))
def Vl:∀y,JI y=QlO y:=λy=>by kernel_rfl
def nz0 (h:s.an=0):nn ⟨s.i,0,s.ae,s.au,s.wh⟩=s:=by rw[ez0,<-h]
def Dg (y:QD):v8 (gq y.1.1) (20-y.2.toNat) (zO y):=De _ _ _
theorem F3 {d n:Nat} (h:s.au≠0\/bd G s 124=false):dZ G A d n s l=(s,l):=by
 cases n with
 | zero=>rfl
 | succ n=>
  grind [dZ]
theorem F4 {d n:Nat} (h:¬(s.au=0/\s.i<G.length/\bd G s 124=false/\bd G s 41=false)):eE G A d n s l=(s,l):=by
 cases n with
 | zero=>rfl
 | succ n=>unfold eE;rw[Zaa h]
theorem QlQ (y:QD) (L:yM.pre y):JE y:=by
 have⟨⟨p,s⟩,d⟩:=y;obtain⟨h0,z,h1⟩:fS (p,s)/\(0<=d/\d<=20)/\s.i<=p.1.length:=L;have⟨i,g,es,f⟩:=h0.out;have⟨_,_,_,e,w⟩:=s;cases es;obtain⟨d,rfl⟩:=Zau z.1;simp only at h1;have hl:=f.hl;have hlen:=f.len;have q:=λ(j k:Nat) (e w:Int) (E:j<=100000) (hk:k<=4)=>(⟨f.q,E,hk,hl,hlen⟩:QF p j k).ok e w
 have A:=Dg ((p,⟨i,0,g,e,w⟩),↑d);obtain⟨B,H⟩:∃B,zO ((p,⟨i,0,g,e,w⟩),↑d)=B:=⟨_,rfl⟩;rw[H] at A;have A:v8 (gq p) (20-d) B:=A;have b:∀M,zO ((p,M),↑d)=B:=λ_=>H
 have G:∀j k e w,iT ((p,⟨(j:Nat),0,(k:Nat),e,w⟩),↑d)=pr (gq p) B d ⟨j,0,k,e,w⟩:=λj k e w=>by unfold iT;rw[az,b];rfl
 have⟨c1,c2⟩:=wT A d (s:=⟨i,0,g,e,w⟩) (by grind) f.g;obtain⟨c,D⟩:∃c,pr (gq p) B d ⟨i,0,g,e,w⟩=c:=⟨_,rfl⟩;rw[D] at c1 c2;have Q:fy ((p,⟨i,0,g,e,w⟩),↑d)=((dZ (gq p) B d ((gq p).length+2-c.1.i) c.1 [c.2]).1,b9 4 (dZ (gq p) B d ((gq p).length+2-c.1.i) c.1 [c.2]).2):=by
  unfold fy;rw[az,b,<-D];rfl
 have cl:=c1.len;have co:=c1.op;unfold JE;simp only[bN,bj,Zad,Zan,Zao,JD,aw,a_,bq,dL,G,D];refine⟨⟨⟨q i g e w ω f.g,⟨z.1,z.2⟩,h1⟩,ω⟩,⟨(⟨c.1.i,0,c.1.ae,c.1.au,c.1.wh⟩,[c.2]),rfl,rfl,rfl,rfl,rfl,⟨q _ _ _ _ ω c1.gm,c1.le,by grind⟩,by simp,?_,(gq p).length+2-c.1.i,?_,?_,?_⟩,λx K=>?_⟩
 ·have P:total [c.2]=c.2.length:=by simp[total]
  have c3:c.2.length<=3*(c.1.i-i)+1:=c2;show total [c.2]+2*1<=3*(c.1.i-i)+3
  omega
 ·grind
 ·grind
 ·grind
 ·have⟨⟨T,U,S,l,v⟩,r⟩:=x;have⟨⟨o1,R,I⟩,i3,i4,n,i5,i6,i7⟩:=K;have⟨a,o,es,C⟩:=o1.out;cases es;have I:a<=p.1.length+30:=I;have i4:total r+2*r.length<=3*(a-i)+3:=i4;have i5:p.1.length+2<=n+a:=i5;rw[b] at i6 i7;have i6:(dZ (gq p) B d n ⟨a,0,o,l,v⟩ r).1=(fy ((p,⟨i,0,g,e,w⟩),↑d)).1:=i6;have i7:b9 4 (dZ (gq p) B d n ⟨a,0,o,l,v⟩ r).2=(fy ((p,⟨i,0,g,e,w⟩),↑d)).2:=i7;have ex:nn ⟨↑a,0,↑o,l,v⟩=⟨a,0,o,l,v⟩:=rfl;simp only[ex,bR (n:=a) ω,G];have stop:(l≠0\/bd (gq p) ⟨a,0,o,l,v⟩ 124=false)->(total r<=100000/\r.length<=100000)/\b9 4 r=(fy ((p,⟨i,0,g,e,w⟩),↑d)).2/\(a:Int)=((fy ((p,⟨i,0,g,e,w⟩),↑d)).1.i:Nat)/\(o:Int)=((fy ((p,⟨i,0,g,e,w⟩),↑d)).1.ae:Nat)/\l=(fy ((p,⟨i,0,g,e,w⟩),↑d)).1.au/\v=(fy ((p,⟨i,0,g,e,w⟩),↑d)).1.wh:=λh=>by
   grind [F3]
  refine⟨λk1=>⟨⟨q a o l v C.i C.g,by decide,by decide⟩,λk2=>?_,λk2=>stop (.inr k2)⟩,λk1=>stop (.inl k1)⟩;have E:=dy k2;simp only at E;have⟨b1,J⟩:=wT A d (s:=⟨a+1,0,o,l,v⟩) (by assumption) C.g;obtain⟨t,ht⟩:∃t,pr (gq p) B d ⟨a+1,0,o,l,v⟩=t:=⟨_,rfl⟩;rw[ht] at b1 J ⊢;have N:=b1.len;have O:a+1<=t.1.i:=b1.le;have F:=b1.op;obtain⟨n,rfl⟩:∃m,n=m+1:=⟨n-1,ω⟩;have u:dZ (gq p) B d (n+1) ⟨a,0,o,l,v⟩ r=dZ (gq p) B d n t.1 (r++[t.2]):=by
   conv=>lhs;unfold dZ
   rw[Zac ⟨k1,k2⟩,<-ht];rfl
  rw[u] at i6 i7;refine⟨⟨⟨q _ _ _ _ ω C.g,⟨z.1,z.2⟩,by grind⟩,by grind [mB]⟩,by simp;omega,(⟨t.1.i,0,t.1.ae,t.1.au,t.1.wh⟩,r++[t.2]),rfl,rfl,rfl,rfl,rfl,⟨⟨q _ _ _ _ ω b1.gm,by grind,by grind⟩,by simp,?_,n,by grind,?_,?_⟩,?_⟩
  ·grind [gR]
  ·rw[nz0 F,b];exact i6
  ·rw[nz0 F,b];exact i7
  ·show p.1.length+30-(t.1.i:Int).toNat<p.1.length+30-(a:Int).toNat
   omega
theorem QlR (y:QD) (L:BA.pre y):JF y:=by
 have⟨⟨p,s⟩,d⟩:=y;obtain⟨h0,C,h1⟩:fS (p,s)/\(0<=d/\d<=20)/\s.i<=p.1.length:=L;have⟨i,g,es,f⟩:=h0.out;have⟨_,_,_,e,w⟩:=s;cases es;obtain⟨d,rfl⟩:=Zau C.1;simp only at h1;have hl:=f.hl;have hlen:=f.len;have q:=λ(j k:Nat) (e w:Int) (J:j<=100000) (hk:k<=4)=>(⟨f.q,J,hk,hl,hlen⟩:QF p j k).ok e w
 have A:=Dg ((p,⟨i,0,g,e,w⟩),↑d);obtain⟨B,H⟩:∃B,zO ((p,⟨i,0,g,e,w⟩),↑d)=B:=⟨_,rfl⟩;rw[H] at A;have A:v8 (gq p) (20-d) B:=A;have b:∀M,zO ((p,M),↑d)=B:=λ_=>H
 have G:∀j k e w,kH ((p,⟨(j:Nat),0,(k:Nat),e,w⟩),↑d)=tk (gq p) B d ⟨j,0,k,e,w⟩:=λj k e w=>by unfold kH;rw[az,b];rfl
 have F:iT ((p,⟨i,0,g,e,w⟩),↑d)=((eE (gq p) B d ((gq p).length+2-i) ⟨i,0,g,e,w⟩ []).1,b9 3 (eE (gq p) B d ((gq p).length+2-i) ⟨i,0,g,e,w⟩ []).2):=by
  unfold iT;rw[az,b];rfl
 unfold JF;simp only[bN,bj,Zad,Zan,Zao,JD,aw,a_,bq,dL,G];refine⟨⟨(⟨i,0,g,e,w⟩,[]),rfl,rfl,rfl,rfl,rfl,⟨q _ _ _ _ ω f.g,Zah _,by show i<=p.1.length+30;omega⟩,by simp,by simp[total],(gq p).length+2-i,?_,?_,?_⟩,λx K=>?_⟩
 ·show p.1.length+2<=(gq p).length+2-i+i;omega
 ·rw[b,F];rfl
 ·rw[b,F];rfl
 ·have⟨⟨R,S,Q,c,o⟩,r⟩:=x;have⟨⟨o1,O,P⟩,i3,i4,n,i5,i6,i7⟩:=K;have⟨a,l,es,z⟩:=o1.out;cases es;have i3:r.length<=a-i:=i3;have i5:p.1.length+2<=n+a:=i5;rw[b] at i6 i7;have i6:(eE (gq p) B d n ⟨a,0,l,c,o⟩ r).1=(iT ((p,⟨i,0,g,e,w⟩),↑d)).1:=i6;have i7:b9 3 (eE (gq p) B d n ⟨a,0,l,c,o⟩ r).2=(iT ((p,⟨i,0,g,e,w⟩),↑d)).2:=i7;have ex:nn ⟨↑a,0,↑l,c,o⟩=⟨a,0,l,c,o⟩:=rfl;simp only[G];have stop:¬(c=0/\a<(gq p).length/\bd (gq p) ⟨a,0,l,c,o⟩ 124=false/\bd (gq p) ⟨a,0,l,c,o⟩ 41=false)->(total r<=100000/\r.length<=100000)/\b9 3 r=(iT ((p,⟨i,0,g,e,w⟩),↑d)).2/\(a:Int)=((iT ((p,⟨i,0,g,e,w⟩),↑d)).1.i:Nat)/\(l:Int)=((iT ((p,⟨i,0,g,e,w⟩),↑d)).1.ae:Nat)/\c=(iT ((p,⟨i,0,g,e,w⟩),↑d)).1.au/\o=(iT ((p,⟨i,0,g,e,w⟩),↑d)).1.wh:=λh=>by
   grind [F4]
  have D:=q a l c o z.i z.g;refine⟨λk1=>⟨λk2=>⟨⟨D,by decide,by decide⟩,λk3=>⟨⟨D,by decide,by decide⟩,λk4=>?_,λk4=>stop λh=>by grind⟩,λk3=>stop λh=>by grind⟩,λk2=>stop λh=>ω⟩,λk1=>stop λh=>k1 h.1⟩;have⟨b1,v,I⟩:=MF A d (t:=⟨a,0,l,c,o⟩) (by grind) z.g;obtain⟨t,ht⟩:∃t,tk (gq p) B d ⟨a,0,l,c,o⟩=t:=⟨_,rfl⟩;rw[ht] at b1 v I ⊢;have N:=b1.len;have E:=b1.op;have v:a<t.1.i:=v;obtain⟨n,rfl⟩:∃m,n=m+1:=⟨n-1,ω⟩;have u:eE (gq p) B d (n+1) ⟨a,0,l,c,o⟩ r=eE (gq p) B d n t.1 (r++[t.2]):=by
   grind [eE]
  rw[u] at i6 i7;refine⟨⟨⟨D,⟨C.1,C.2⟩,by assumption⟩,by grind [mB]⟩,by simp;omega,(⟨t.1.i,0,t.1.ae,t.1.au,t.1.wh⟩,r++[t.2]),rfl,rfl,rfl,rfl,rfl,⟨⟨q _ _ _ _ ω b1.gm,by grind,by grind⟩,?_,?_,n,by grind,?_,?_⟩,?_⟩
  ·grind
  ·grind [gR]
  ·rw[nz0 E,b];exact i6
  ·rw[nz0 E,b];exact i7
  ·show p.1.length+30-(t.1.i:Int).toNat<p.1.length+30-(a:Int).toNat
   omega
theorem Qg5 (h:s.i<G.length) (a:s.ae<=4):RB G 1 s (eN G s).1:=(Bv (RB.refl (k:=0) ω a) h).1
theorem QlS (y:QD) (S:BB.pre y):JG y:=by
 have⟨⟨p,s⟩,d⟩:=y;obtain⟨h0,E,h1⟩:fS (p,s)/\(0<=d/\d<=20)/\s.i<p.1.length:=S;have⟨i,g,es,f⟩:=h0.out;have⟨_,_,_,e,w⟩:=s;cases es;obtain⟨d,rfl⟩:=Zau E.1;have hl:=f.hl;have hlen:=f.len;have q:=λ(j k:Nat) (e w:Int) (F:j<=100000) (hk:k<=4)=>(⟨f.q,F,hk,hl,hlen⟩:QF p j k).ok e w
 have A:=Dg ((p,⟨i,0,g,e,w⟩),↑d);obtain⟨B,I⟩:∃B,zO ((p,⟨i,0,g,e,w⟩),↑d)=B:=⟨_,rfl⟩;rw[I] at A;have m:∀T,zO ((p,T),↑d)=B:=λ_=>I
 have u:gG ((p,⟨i,0,g,e,w⟩),↑d)=gE (gq p) B d ⟨i,0,g,e,w⟩:=by unfold gG;rw[az,m];rfl
 have⟨b1,L,G⟩:=FQ A d (t:=⟨i,0,g,e,w⟩) (by grind) f.g;obtain⟨t,ht⟩:∃t,gE (gq p) B d ⟨i,0,g,e,w⟩=t:=⟨_,rfl⟩;rw[ht] at b1 L G u;have M:=b1.len;have C:=b1.gm;have N:=b1.op;have O:=G;have⟨⟨a,to,c,b,l⟩,x⟩:=t;subst N;simp only at M C O;have Q:nR ((p,⟨i,0,g,e,w⟩),↑d)=if bd (gq p) ⟨a,0,c,b,l⟩ 42 then(⟨a+1,0,c,b,l⟩,0,-1) else if bd (gq p) ⟨a,0,c,b,l⟩ 43 then(⟨a+1,0,c,b,l⟩,1,-1) else if bd (gq p) ⟨a,0,c,b,l⟩ 63 then(⟨a+1,0,c,b,l⟩,0,1) else eN (gq p) ⟨a,0,c,b,l⟩:=by
  unfold nR;rw[az,u];rfl
 have P:BD ((p,⟨i,0,g,e,w⟩),↑d)=(b=0/\a<p.1.length/\(bd (gq p) ⟨a,0,c,b,l⟩ 42\/bd (gq p) ⟨a,0,c,b,l⟩ 43\/bd (gq p) ⟨a,0,c,b,l⟩ 63\/bd (gq p) ⟨a,0,c,b,l⟩ 123)):=by
  unfold BD;rw[u]
 have H:kH ((p,⟨i,0,g,e,w⟩),↑d)=if b≠0\/(gq p).length<=a then(⟨a,0,c,b,l⟩,x) else if bd (gq p) ⟨a,0,c,b,l⟩ 42 then kg (gq p) ⟨a+1,0,c,b,l⟩ 0 (-1) x else if bd (gq p) ⟨a,0,c,b,l⟩ 43 then kg (gq p) ⟨a+1,0,c,b,l⟩ 1 (-1) x else if bd (gq p) ⟨a,0,c,b,l⟩ 63 then kg (gq p) ⟨a+1,0,c,b,l⟩ 0 1 x else if bd (gq p) ⟨a,0,c,b,l⟩ 123 then kg (gq p) (eN (gq p) ⟨a,0,c,b,l⟩).1 (eN (gq p) ⟨a,0,c,b,l⟩).2.1 (eN (gq p) ⟨a,0,c,b,l⟩).2.2 x else(⟨a,0,c,b,l⟩,x):=by
  unfold kH;rw[az,m];unfold tk;rw[show gE (gq p) B ((d:Int).toNat) (nn ⟨i,0,g,e,w⟩)=(⟨a,0,c,b,l⟩,x) from ht];rfl
 have F:a<p.1.length->b=0->(bd (gq p) ⟨a,0,c,b,l⟩ 42\/bd (gq p) ⟨a,0,c,b,l⟩ 43\/bd (gq p) ⟨a,0,c,b,l⟩ 63\/bd (gq p) ⟨a,0,c,b,l⟩ 123)->kH ((p,⟨i,0,g,e,w⟩),↑d)=kg (gq p) (nR ((p,⟨i,0,g,e,w⟩),↑d)).1 (nR ((p,⟨i,0,g,e,w⟩),↑d)).2.1 (nR ((p,⟨i,0,g,e,w⟩),↑d)).2.2 x/\RB (gq p) 1 ⟨a,0,c,b,l⟩ (nR ((p,⟨i,0,g,e,w⟩),↑d)).1:=λh1 V W=>by
  have nx:RB (gq p) 1 ⟨a,0,c,b,l⟩ ⟨a+1,0,c,b,l⟩:=⟨by grind,by grind,rfl,Zah _,C⟩;grind [Qg5]
 have R:sq (p,⟨a,0,c,b,l⟩)=eN (gq p) ⟨a,0,c,b,l⟩:=by unfold sq;rw[az];rfl
 unfold JG;simp only[bN,bj,Zad,Zan,Zao,JD,aw,a_,bq,dL,ZaY,ZaZ,u,R,P,bR (n:=a) ω];have same:kH ((p,⟨i,0,g,e,w⟩),↑d)=(⟨a,0,c,b,l⟩,x)->x=(kH ((p,⟨i,0,g,e,w⟩),↑d)).2/\(a:Int)=((kH ((p,⟨i,0,g,e,w⟩),↑d)).1.i:Nat)/\(c:Int)=((kH ((p,⟨i,0,g,e,w⟩),↑d)).1.ae:Nat)/\b=(kH ((p,⟨i,0,g,e,w⟩),↑d)).1.au/\l=(kH ((p,⟨i,0,g,e,w⟩),↑d)).1.wh:=λh=>by grind
 refine⟨⟨⟨q i g e w f.i f.g,⟨E.1,E.2⟩,h1⟩,ω⟩,λk1=>same (H.trans (Zac (.inl k1))),λk1=>⟨λk2=>same (H.trans (Zac (.inr ω))),λk2=>⟨⟨ZaF _,k2,?_⟩,λD=>?_⟩⟩⟩
 ·have o:a<p.1.length:=ω;have rune:∀r:Int,0<=r->r<128->(p.1.getD a 0=r↔bd (gq p) ⟨a,0,c,b,l⟩ r):=λr Y Z=>by
   rw[Jv r (show a<(gq p).length by omega),ZaP];show _↔aN (gq p) a=r
   rcases f.q.rune (i:=a) o with⟨_,h⟩ | ⟨_,h,X⟩
   ·rw[h]
   ·omega
  refine⟨λv=>?_,λv=>⟨λz=>?_,λz=>⟨λv3=>?_,λv3=>⟨λK=>?_,λK=>?_⟩⟩⟩⟩
  ·grind
  ·grind
  ·grind
  ·have v:=λh=>v ((rune 42 (by decide) (by decide)).2 h)
   have z:=λh=>z ((rune 43 (by decide) (by decide)).2 h)
   have v3:=λh=>v3 ((rune 63 (by decide) (by decide)).2 h)
   rw[Q,Zaa v,Zaa z,Zaa v3];exact⟨⟨(q a c b l ω C),k2⟩,rfl,rfl,rfl,rfl,rfl,rfl,k1,o,.inr (.inr (.inr ((rune 123 (by decide) (by decide)).1 K)))⟩
  ·grind
 ·have⟨U,z2⟩:=F D.2.1 D.1 D.2.2;rw[U];generalize nR ((p,⟨i,0,g,e,w⟩),↑d)=J at*
  have z3:=z2.len;rw[nz0 z2.op];have fit:∀n:Nd,((([n]++x).length:Nat):Int)*(72:Nat)<=140737488355328:=λn=>by grind
  have ln:bd (gq p) J.1 63->ay .i64 ↑J.1.i 1=((J.1.i+1:Nat):Int):=λ_=>bR ω
  unfold kg;refine⟨⟨q _ _ _ _ ω z2.gm,by decide,by decide⟩,λk=>?_,λk=>?_⟩
  ·rw[ln k,si k,k];exact⟨fit _,rfl,rfl,rfl,rfl,rfl⟩
  ·rw[sj k,k];exact⟨fit _,rfl,rfl,rfl,rfl,rfl⟩
theorem QlT (y:QD) (A:FZ.pre y):JH y:=by
 have⟨⟨p,s⟩,d⟩:=y;obtain⟨h0,l,h1⟩:fS (p,s)/\(0<=d/\d<=20)/\s.i<p.1.length:=A;have⟨i,g,es,f⟩:=h0.out;have⟨_,_,_,e,w⟩:=s;cases es;obtain⟨d,rfl⟩:=Zau l.1;simp only at h1;have hl:=f.hl;have hlen:=f.len;have q:=λ(j k:Nat) (e w:Int) (z:j<=100000) (hk:k<=4)=>(⟨f.q,z,hk,hl,hlen⟩:QF p j k).ok e w
 obtain⟨B,x⟩:∃B,zO ((p,⟨i,0,g,e,w⟩),↑d)=B:=⟨_,rfl⟩;have c:∀D,zO ((p,D),↑d)=B:=λ_=>x
 have b:ix (gq p) (aq (gq p) i)=i:=FX f.q.n ω;have u:rW ((p,⟨((i+1:Nat):Int),0,g,e,w⟩),↑d,aq (gq p) i)=jP (gq p) B d ⟨i+1,0,g,e,w⟩ i:=by
  unfold rW;rw[az,b];show jP (gq p) (zO ((p,_),↑d)) _ _ _=_
  rw[c];rfl
 have v:yI ((p,⟨((i+1:Nat):Int),0,g,e,w⟩),aq (gq p) i)=z_ (gq p) ⟨i+1,0,g,e,w⟩ i:=by
  unfold yI;rw[az,b];rfl
 have t:uI ((p,⟨((i+1:Nat):Int),0,g,e,w⟩),aq (gq p) i)=tj (gq p) ⟨i+1,0,g,e,w⟩ i:=by
  unfold uI;rw[b];rfl
 have a:gG ((p,⟨i,0,g,e,w⟩),↑d)=gE (gq p) B d ⟨i,0,g,e,w⟩:=by unfold gG;rw[az,c];rfl
 have C:=q (i+1) g e w ω f.g;unfold JH;simp only[bN,bj,Zad,JD,aw,dL,bR (n:=i) ω,u,v,t];have E:Pj ((p,⟨((i+1:Nat):Int),0,g,e,w⟩),aq (gq p) i):=⟨by assumption,i,by grind,rfl⟩;refine⟨⟨(q i g e w ω f.g),ω⟩,ZaF _,h1,?_⟩;have G:=FY (gq p) (i+1) g i e w 4 _ rfl;rcases f.q.rune (i:=i) ω with⟨o,h⟩ | ⟨o,h,_⟩
 ·have F:=f.q.p0 i;rw[h];unfold gE at a;rw[Zaa (by grind)] at a;generalize aN (gq p) i=r at*
  generalize gG ((p,⟨i,0,g,e,w⟩),↑d)=at_ at*
  have nx:Ps.next ⟨i,0,g,e,w⟩=⟨i+1,0,g,e,w⟩:=rfl;refine⟨λk1=>?_,λk1=>⟨λk2=>?_,λk2=>⟨λk3=>?_,λk3=>⟨λk4=>?_,λk4=>⟨λk5=>?_,λk5=>⟨λk6=>?_,λk6=>?_⟩⟩⟩⟩⟩⟩
  ·rw[Zac k1] at a;rw[a];exact⟨⟨⟨C,⟨⟨l.1,l.2⟩,by assumption⟩,i,ω,rfl⟩,by show mB _<mB _+1;unfold mB gd;simp only;omega⟩,rfl,rfl,rfl,rfl,rfl⟩
  ·grind
  ·grind
  ·rw[Zaa k1,Zaa k2,Zaa k3,Zac k4] at a;rw[a];exact⟨rfl,rfl,rfl,rfl,rfl⟩
  ·rw[Zaa k1,Zaa k2,Zaa k3,Zaa k4,Zac k5] at a;rw[a];exact⟨rfl,rfl,rfl,rfl,rfl⟩
  ·grind
  ·have W:(r=42\/r=43\/r=63\/r=123\/r=125\/r=93\/r=41\/r=124)->fS (p,⟨((i+1:Nat):Int),0,g,e,w⟩)/\[]=at_.2/\((i+1:Nat):Int)=↑at_.1.i/\(g:Int)=↑at_.1.ae/\cL (aE e 0) 4 e=at_.1.au/\cL (aE e 0) (aq (gq p) i) w=at_.1.wh:=λh=>by
    grind
   have N:¬(r=42\/r=43\/r=63\/r=123\/r=125\/r=93\/r=41\/r=124)->[xZ [(r,r)]]=at_.2/\((i+1:Nat):Int)=↑at_.1.i/\(g:Int)=↑at_.1.ae/\e=at_.1.au/\w=at_.1.wh:=λh=>by
    grind
   refine⟨λm=>⟨λ_=>W ω,λn=>absurd m n⟩,λm1=>⟨λm=>⟨λ_=>W ω,λn=>absurd m n⟩,λm2=>⟨λm=>⟨λ_=>W ω,λn=>absurd m n⟩,λm3=>⟨λm=>⟨λ_=>W ω,λn=>absurd m n⟩,λm4=>⟨λm=>⟨λ_=>W ω,λn=>absurd m n⟩,λm5=>⟨λm=>⟨λ_=>W ω,λn=>absurd m n⟩,λm6=>⟨λm=>⟨λ_=>W ω,λn=>absurd m n⟩,λm7=>⟨λm=>⟨λ_=>W ω,λn=>absurd m n⟩,λm8=>⟨λm=>ω,λ_=>N ω⟩⟩⟩⟩⟩⟩⟩⟩⟩
 ·rw[h];have a:gG ((p,⟨i,0,g,e,w⟩),↑d)=(Ps.aA (gq p) ⟨i+1,0,g,e,w⟩ i 4,[]):=by
   rw[a];unfold gE;rw[Zac (o)];rfl
  grind
theorem QlU (y:QG) (O:F0.pre y):JI y:=by
  have⟨⟨p,s⟩,d,a0⟩:=y;obtain⟨h0,⟨L,h1⟩,r⟩:fS (p,s)/\((0<=d/\d<=20)/\s.i<=p.1.length)/\yH (gq p) a0:=O;have⟨i,g,es,f⟩:=h0.out;have⟨_,_,_,e,w⟩:=s;cases es;obtain⟨d,rfl⟩:=Zau L.1;simp only at h1;have I:=MH r;have hl:=f.hl;have hlen:=f.len;have q:=λ(j k:Nat) (e w:Int) (N:j<=100000) (hk:k<=4)=>(⟨f.q,N,hk,hl,hlen⟩:QF p j k).ok e w
  obtain⟨B,o⟩:∃B,zO ((p,⟨i,0,g,e,w⟩),↑d)=B:=⟨_,rfl⟩;have H:rW ((p,⟨i,0,g,e,w⟩),↑d,a0)=jP (gq p) B d ⟨i,0,g,e,w⟩ (ix (gq p) a0):=by
    unfold rW;rw[az];show jP (gq p) (zO ((p,⟨i,0,g,e,w⟩),↑d)) _ _ _=_
    rw[o];rfl
  have E:d<20->∀j k,fy ((p,⟨(j:Nat),0,(k:Nat),e,w⟩),((d+1:Nat):Int))=B ⟨j,0,k,e,w⟩:=λM j k=>by
    rw[<-o];unfold fy zO;rw[az];simp only[Zad];rw[show 20-d=(20-(d+1))+1 by omega];rfl
  have A:v8 (gq p) (20-d) B:=by
    have:=Dg ((p,⟨i,0,g,e,w⟩),↑d);rw[o] at this;exact this
  unfold JI;simp only[bN,bj,Zad,Zan,Zao,JD,aw,a_,bq,dL,ez0,Zbn,bR (n:=i) ω,bR (n:=d) ω,bR (n:=g) (by have:=f.g;omega)];have i2:ay .i64 ↑i 2=((i+2:Nat):Int):=by grind
  rw[i2];generalize W:rW ((p,⟨i,0,g,e,w⟩),↑d,a0)=R at*
  obtain⟨F,u⟩:∃F,ix (gq p) a0=F:=⟨_,rfl⟩;rw[u] at I H ⊢;have Z:=λer=>FY (gq p) i g F e w er a0 I.symm
  have X:Ps.next ⟨i,0,g,e,w⟩=⟨i+1,0,g,e,w⟩:=rfl;have Y:Ps.next (Ps.next ⟨i,0,g,e,w⟩)=⟨i+2,0,g,e,w⟩:=rfl;have bad:bd (gq p) ⟨i,0,g,e,w⟩ 63->bd (gq p) ⟨i+1,0,g,e,w⟩ 58=false->fS (p,⟨i,0,g,e,w⟩)/\[]=R.2/\(i:Int)=↑R.1.i/\(g:Int)=↑R.1.ae/\cL (aE e 0) 4 e=R.1.au/\cL (aE e 0) a0 w=R.1.wh:=λk1 k2=>by
    have:R=(Ps.aA (gq p) ⟨i,0,g,e,w⟩ F 4,[]):=by rw[H];exact Zac ⟨k1,k2⟩
    grind
  have main:(bd (gq p) ⟨i,0,g,e,w⟩ 63->bd (gq p) ⟨i+1,0,g,e,w⟩ 58)->R=(if 20<=d then(Ps.aA (gq p) ⟨i,0,g,e,w⟩ F 10,[]) else if bd (gq p) ⟨i,0,g,e,w⟩ 63=true then(fE (gq p) (B ⟨i+2,0,g,e,w⟩).1 F,(B ⟨i+2,0,g,e,w⟩).2) else if 4<=g then(Ps.aA (gq p) ⟨i,0,g,e,w⟩ F 13,[]) else(fE (gq p) (B ⟨i,0,g+1,e,w⟩).1 F,{ nd 6 with cap:=((g+1:Nat):Int),af:=1 }::(B ⟨i,0,g+1,e,w⟩).2)):=λc=>by
    grind [jP]
  have tail:(bd (gq p) ⟨i,0,g,e,w⟩ 63->bd (gq p) ⟨i+1,0,g,e,w⟩ 58)->_:=λc=>by
    have m:=main c;refine(show((20:Int)<=d->fS (p,⟨i,0,g,e,w⟩)/\[]=R.2/\(i:Int)=↑R.1.i/\(g:Int)=↑R.1.ae/\cL (aE e 0) 10 e=R.1.au/\cL (aE e 0) a0 w=R.1.wh)/\
      ((d:Int)<20->(bd (gq p) ⟨i,0,g,e,w⟩ 63->((fS (p,⟨((i+2:Nat):Int),0,g,e,w⟩)/\Vg ((p,⟨((i+2:Nat):Int),0,g,e,w⟩),((d+1:Nat):Int)))/\mB ((p,⟨((i+2:Nat):Int),0,g,e,w⟩),((d+1:Nat):Int))+4<mB (gd ((p,⟨i,0,g,e,w⟩),↑d,a0)))/\
        (∀t,t=fy ((p,⟨((i+2:Nat):Int),0,g,e,w⟩),((d+1:Nat):Int))->t.1.an=0/\fS (p,⟨t.1.i,0,t.1.ae,t.1.au,t.1.wh⟩)/\(t.1.i:Int)<=90000/\t.2=R.2/\R.1=fE (gq p) t.1 F))/\
       (bd (gq p) ⟨i,0,g,e,w⟩ 63=false->((4:Int)<=g->fS (p,⟨i,0,g,e,w⟩)/\[]=R.2/\(i:Int)=↑R.1.i/\(g:Int)=↑R.1.ae/\cL (aE e 0) 13 e=R.1.au/\cL (aE e 0) a0 w=R.1.wh)/\
        ((g:Int)<4->((fS (p,⟨i,0,((g+1:Nat):Int),e,w⟩)/\Vg ((p,⟨i,0,((g+1:Nat):Int),e,w⟩),((d+1:Nat):Int)))/\mB ((p,⟨i,0,((g+1:Nat):Int),e,w⟩),((d+1:Nat):Int))+4<mB (gd ((p,⟨i,0,g,e,w⟩),↑d,a0)))/\
        (∀t,t=fy ((p,⟨i,0,((g+1:Nat):Int),e,w⟩),((d+1:Nat):Int))->t.1.an=0/\fS (p,⟨t.1.i,0,t.1.ae,t.1.au,t.1.wh⟩)/\(t.1.i:Int)<=90000/\t.2.length<=10000/\{ nd 6 with cap:=((g+1:Nat):Int),af:=1 }::t.2=R.2/\R.1=fE (gq p) t.1 F)))) from⟨λk=>?_,λk=>⟨λk1=>?_,λk1=>⟨λk2=>?_,λk2=>?_⟩⟩⟩)
    · grind
    · rw[Zaa ω,Zac k1] at m;have l:=dy (c k1);refine⟨⟨⟨q (i+2) g e w ω f.g,⟨ZaF _,by assumption⟩,by grind⟩,by show mB _+4<mB _;unfold mB gd;simp only;omega⟩,λt ht=>?_⟩;rw[E ω] at ht;have⟨a,a2⟩:=A ⟨i+2,0,g,e,w⟩ (by assumption) f.g;rw[<-ht] at a a2 m;have a3:=a.len;exact⟨a.op,q _ _ _ _ ω a.gm,ω,by rw[m],by rw[m]⟩
    · grind
    · rw[Zaa ω,Zaa (by grind),Zaa ω] at m;refine⟨⟨⟨q i (g+1) e w ω ω,⟨ZaF _,by assumption⟩,h1⟩,by show mB _+4<mB _;unfold mB gd;simp only;omega⟩,λt ht=>?_⟩;rw[E ω] at ht;have⟨a,a2⟩:=A ⟨i,0,g+1,e,w⟩ (by grind) (by grind);rw[<-ht] at a a2 m;have a3:=a.len;exact⟨a.op,q _ _ _ _ ω a.gm,ω,ω,by rw[m],by rw[m]⟩
  generalize fy ((p,⟨((i+2:Nat):Int),0,g,e,w⟩),((d+1:Nat):Int))=U at tail ⊢;generalize fy ((p,⟨i,0,((g+1:Nat):Int),e,w⟩),((d+1:Nat):Int))=V at tail ⊢;have G:∀t:Ps,t.an=0->(⟨t.i,0,t.ae,t.au,t.wh⟩:Ps)=t:=λt h=>by rw[<-h]
  have l:i+1<p.1.length->(p.1.getD (i+1) 0=58↔bd (gq p) ⟨i+1,0,g,e,w⟩ 58):=λh=>by
    rw[Jv 58 (show i+1<(gq p).length by omega),ZaP];rcases f.q.rune (i:=i+1) h with⟨_,h⟩ | ⟨_,h,T⟩
    all_goals grind
  refine⟨⟨(q i g e w ω f.g),by decide,by decide⟩,λb=>⟨λJ=>bad b ?_,λJ=>⟨ZaF _,J,λP=>bad b ?_,λP=>?_⟩⟩,λb=>?_⟩
  · grind [Da]
  · grind
  all_goals
    have c:bd (gq p) ⟨i,0,g,e,w⟩ 63->bd (gq p) ⟨i+1,0,g,e,w⟩ 58:=by
      grind
    have⟨Q,v⟩:=tail c;refine⟨Q,λk=>⟨λk1=>?_,λk1=>⟨((v k).2 k1).1,λk2=>?_⟩⟩⟩
    · have⟨x,z⟩:=(v k).1 k1;have⟨C,D,v3,K,v5⟩:=z U rfl;rw[G _ C,v5];exact⟨x,⟨D,v3,r⟩,K,rfl,rfl,rfl,rfl⟩
    · have⟨x,z⟩:=((v k).2 k1).2 k2;have⟨C,D,v3,K,v5,S⟩:=z V rfl;rw[G _ C,S];exact⟨x,⟨D,v3,r⟩,by rw[Zab,ZbA];omega,v5,rfl,rfl,rfl,rfl⟩
inductive Fr where
 | ax | cat | rep | Ag | vZ
variable {i:Nat} {G:List Gt}
def frC:Fr->bp D
 | .ax=>yM | .cat=>BA | .rep=>BB | .Ag=>FZ | .vZ=>F0
def QtN:∀i,(frC i).Y->Nat
 | .ax=>λy=>mB y+4 | .cat=>λy=>mB y+3 | .rep=>λy=>mB y+2 | .Ag=>λy=>mB y+1 | .vZ=>λy=>mB (gd y)
def frF:Fr->Func
 | .ax=>f62 | .cat=>f99 | .rep=>f137 | .Ag=>f162 | .vZ=>f186
def QlV:Fr->vU
 | .ax=>[sm,Dc] | .cat=>[sm,Dc] | .rep=>[sm,Jx] | .Ag=>[Ai,tA,Jz,Jw,Bu,p_] | .vZ=>[sm,tA,Pk]
def frO:∀i,(frC i).Y->dj D
 | .ax=>Qev | .cat=>Qew | .rep=>Qex | .Ag=>λ_=>dk () | .vZ=>λ_=>dk ()
def frL:List Fr:=[.ax,.cat,.rep,.Ag,.vZ]
set_option maxRecDepth 100000 in
theorem QtO (b:Ok mz) (c:Ok p_):∀i,Ok (frC i):=
 yb frL frC QtN (fn:=frF) (tab:=QlV) (jE:=frO)
  (λi=>match i with
   | .ax=>⟨yG,Qep⟩ | .cat=>⟨yG,Qep⟩ | .rep=>⟨yG,QlH⟩ | .Ag=>⟨FP,vH,QlI b c,Qes b,Qg2,c⟩ | .vZ=>⟨yG,vH,QlF⟩)
  (λi=>match i with
   | .ax=>by kernel_rfl | .cat=>by kernel_rfl | .rep=>by kernel_rfl | .Ag=>by kernel_rfl | .vZ=>by kernel_rfl)
  (λi=>match i with
   | .ax=>by kernel_rfl | .cat=>by kernel_rfl | .rep=>by kernel_rfl | .Ag=>by kernel_rfl | .vZ=>by kernel_rfl)
  λi=>match i with
   | .ax=>λy a=>Eq.mp (Vh y) (QlQ y a) | .cat=>λy a=>Eq.mp (Vi y) (QlR y a) | .rep=>λy a=>Eq.mp (Vj y) (QlS y a) | .Ag=>λy a=>Eq.mp (Vk y) (QlT y a) | .vZ=>λy a=>Eq.mp (Vl y) (QlU y a)
def wU (G:List Gt):List Int:=(List.range G.length).map λi=>if fI G i then-1 else aN G i
def v_ (G:List Gt):List Int:=(List.range (G.length+1)).map (aq G)
def JJ:bp D:={ Ah with f:=27 }
def QtP (y:JJ.Y):dj D:=⟨[],[],[(506,⟨Nat,[7],λx=>[(5,.ptr 0 0),(6,Qyy (aq (bk y) x)),(8,Qyy x)],[],λx=>[(0,.cells [.grow 14 ((wU (bk y)).take x) 1,.grow 5 ((v_ (bk y)).take x) 2,Qyy 0,Qyy 0,Qyy 0,Qyy 0] 159 false),(1,.tok 14 21),(2,.tok 5 3)],3,λx=>x<=(bk y).length,λx=>(bk y).length-x⟩)],[],1,[]⟩
def Vm (y:List UInt8):Prop:=let b:=bk y;let q1:=b.length;let s:=(cr y).1;let t:=(cr y).2.2;let u:=(cr y).2.1;let w:=λp:Prop=>aa ([0,0,0,0]:List Int) p;aj (aD 120 (fo y)) ([]=s/\2=u/\0=t/\True) (Iv (y.length<=1000000)/\RAO y ((∃z:Nat,aa [b] (0=aq b z/\0=(z:Int)/\[]=List.take z (wU b)/\[]=List.take z (v_ b)/\w ((Iv (z<=q1)))))/\(∀x:Nat,let d:=List.take x (wU b);let l:=aD (x:Int) (ab b);let e:=bn (List.take x (v_ b)) [aq b x];let k:=gt (0,0) b (x:Int).toNat;let f:=((d,e),cm.mk 0 0 0 0 0);let a:=(fy (f,0)).1;let c:=((a.i:Nat):Int);let g:=((a.ae:Nat):Int);let h:=aE a.au 0;let v:=aD c (ab d);let m:=aq (gq (d,e)) c.toNat;let j:=cL h 4 a.au;let n:=cL h m a.wh;let o:Prop:=((fy (f,0)).2=s/\0=u/\0=t/\True);let q:Prop:=(aM 0 (x:Int)/\l/\ba (ab (bn d [k.1])) 4/\aa [d] (aa [k.1] (ba (ab e) 8/\aM 0 (x:Int)/\l/\∃z:Nat,aa [b] (ay .i64 (aq b x) k.2=aq b z/\ay .i64 (x:Int) 1=(z:Int)/\bn d [k.1]=List.take z (wU b)/\e=List.take z (v_ b)/\w ((Iv (z<=q1/\(q1-z)<(q1-x))))))));let r:Prop:=(aj (!h) (aa [a.au,a.wh] ([]=s/\a.au=u/\a.wh=t/\True)) (o));(Iv (x<=q1))->aj l (aM 0 (x:Int)/\l/\aj (aE k.1 65533) (aM 0 (x:Int)/\l/\aj (aE k.2 1) (ba (ab (bn d [-1])) 4/\ba (ab e) 8/\aM 0 (x:Int)/\l/\∃z:Nat,aa [b] (ay .i64 (aq b x) k.2=aq b z/\ay .i64 (x:Int) 1=(z:Int)/\bn d [-1]=List.take z (wU b)/\e=List.take z (v_ b)/\w ((Iv (z<=q1/\(q1-z)<(q1-x)))))) (q)) (q)) (ba (ab e) 8/\Iv (fS f/\Vg (f,0))/\aa ([0]:List Int) (aa [d,e] (aa ([0,0,0,0]:List Int) (aj h (aa [a.au,c] (aa [d] (aj v (Iv (fS ((d,e),cm.mk c 0 g a.au a.wh)/\c<=(d.length:Int))/\aa [d,e] (aa [c,g,a.au,a.wh] (Iv (fS ((d,e),cm.mk c 0 g a.au a.wh)/\True)/\aa ([4,m]:List Int) (aa [d,e] (aa [c,g,a.au,a.wh] (aj (!(aE j 0)) (aa [j,n] ([]=s/\j=u/\n=t/\True)) (o))))))) (r)))) (aa [a.au] (r)))))))))
theorem j5 (G:List Gt):(wU G).length=G.length:=by grind [wU]
theorem mC (G:List Gt):(v_ G).length=G.length+1:=by grind [v_]
theorem JK (h:i<G.length):(wU G)[i]'(by rw[j5];exact h)=if fI G i then-1 else aN G i:=by simp[wU]
theorem yN (h:i<=G.length):(v_ G)[i]'(by rw[mC];omega)=aq G i:=by simp[v_]
theorem fh {α:Type} {l:List α} (h:i<l.length) (d:α):l.getD i d=l[i]:=by grind
def Qax (h:i<G.length):fI G i=(decide ((G.getD i (0,0)).1=65533)&&decide ((G.getD i (0,0)).2=1)):=My h
theorem Vn (y:By):gq (wU (bk y),v_ (bk y))=bk y:=by
 have d:=(oJ y.length y).2;refine Zdx (by rw[yF,j5]) λi h1 a=>?_
 have c:i<(wU (bk y)).length:=by grind [j5]
 have b:(gq (wU (bk y),v_ (bk y)))[i]=(if (wU (bk y)).getD i 0= -1 then 65533 else(wU (bk y)).getD i 0,(v_ (bk y)).getD (i+1) 0-(v_ (bk y)).getD i 0):=by simp[gq]
 rw[b,fh c,fh (by rw[mC];omega),fh (by rw[mC];omega),JK a,yN ω,yN ω,iI a];have f:aN (bk y) i=(bk y)[i].1:=by grind [aN]
 have e:=Mf y i;grind [FO]
theorem Vo (y:By) (h:(bk y).length<=1000):Db (wU (bk y),v_ (bk y)):=by
 have e:=Vn y;refine⟨by grind [j5],λi hi=>?_,λi hi=>?_,by grind [mC,j5],by grind [IE],by rw[e];exact(oJ y.length y).2,by rw[e];exact Mf y⟩
 ·grind [JK,j5]
 ·grind [j5,mC,yN]
theorem QtR (y:By) (A:JJ.pre y):Vm y:=by
 have hl:=FM y;have D:=(oJ y.length y).2;have p:=yC (G:=bk y) D;unfold Vm;simp only[bN,bj,aw,my,a_,bq,Zad,Zan,Zao,dL];have K:120<y.length->cr y=([],2,0):=λh=>Zac h
 refine⟨λh=>by grind,λh=>⟨ω,⟨0,by rfl,rfl,by simp,by simp,Zaj _⟩,λx P=>⟨λc=>?_,λc=>?_⟩⟩⟩
 ·have b:x<(bk y).length:=ω;have b1:=p x ω;have B:=p (x+1) ω;rw[iI b] at B;have t:=j5 (bk y);have Q:=mC (bk y);have f:∀r,r=(if fI (bk y) x then-1 else aN (bk y) x)->((((List.take x (wU (bk y))++[r]).length:Nat):Int)*(4:Nat)<=140737488355328)/\((((List.take x (v_ (bk y))++[aq (bk y) x]).length:Nat):Int)*(8:Nat)<=140737488355328)/\0<=(x:Int)/\(x:Int)<((bk y).length:Int)/\∃z:Nat,ay .i64 (aq (bk y) x) ((bk y).getD x (0,0)).2=aq (bk y) z/\ay .i64 (x:Int) 1=(z:Int)/\List.take x (wU (bk y))++[r]=List.take z (wU (bk y))/\List.take x (v_ (bk y))++[aq (bk y) x]=List.take z (v_ (bk y))/\z<=(bk y).length/\(bk y).length-z<(bk y).length-x:=λr O=>by
   refine⟨by simp;omega,by simp;omega,ZaF _,c,x+1,?_,bA ω ω,?_,?_,b,ω⟩
   ·rw[bA ω ω,iI b]
   ·grind [List.take_succ,JK]
   ·grind [List.take_succ,yN]
  have d:=Qax b;refine⟨ZaF _,c,λk1=>⟨ZaF _,c,λk2=>?_,λk2=>?_⟩,λk1=>?_⟩
  ·grind
  ·exact⟨ZaF _,c,f _ (by rw[d,ZaN k2,Zbw];rfl)⟩
  ·exact⟨ZaF _,c,f _ (by rw[d,ZaN k1,Zcw];rfl)⟩
 ·have g:x=(bk y).length:=ω;subst g;have I:List.take (bk y).length (wU (bk y))=wU (bk y):=ZaA (by rw[j5];omega);have J:List.take (bk y).length (v_ (bk y))++[aq (bk y) (bk y).length]=v_ (bk y):=by
   have M:(bk y).length<(v_ (bk y)).length:=by rw[mC];omega
   have N:=ZbE (l:=v_ (bk y)) (i:=(bk y).length);grind [yN,mC]
  rw[I,J];have v:=Vo y ω;have n:=Vn y;have q:=λ(j k:Nat) (e w:Int) (E:j<=100000) (hk:k<=4)=>(⟨v,E,hk,yF _,v.len⟩:QF (wU (bk y),v_ (bk y)) j k).ok e w
  obtain⟨a,o⟩:∃a,fy (((wU (bk y),v_ (bk y)),⟨0,0,0,0,0⟩),0)=a:=⟨_,rfl⟩;have C:a=CU (bk y) 21 0 QX:=by
   rw[<-o];unfold fy;rw[az];show vA (gq (wU (bk y),v_ (bk y))) (CU (gq (wU (bk y),v_ (bk y))) 20 1) 0 QX=_
   rw[n];rfl
  obtain⟨m,F⟩:=De (bk y) 21 0 QX (Zaj _) (Zaj _);rw[<-C] at m F;have t:=j5 (bk y);have R:=m.len;have H:=m.gm;rw[o,n,t];obtain⟨s,hs⟩:∃s,(if a.1.au=0/\a.1.i<(bk y).length then a.1.aA (bk y) a.1.i 4 else a.1)=s:=⟨_,rfl⟩;have L:cr y=if s.au≠0 then([],s.au,s.wh) else(a.2,0,0):=by
   grind [cr,IF,Iu]
  have u:=q a.1.i a.1.ae a.1.au a.1.wh ω H;refine⟨by grind,⟨q 0 0 0 0 ω ω,⟨ZaQ _,ω⟩,ZaF _⟩,λk=>⟨λk1=>⟨⟨u,ω⟩,u,λk2=>?_,λk2=>?_⟩,λk1=>⟨λk2=>absurd k k2,λ_=>?_⟩⟩,λk=>⟨λ_=>?_,λk2=>absurd k2 k⟩⟩
  ·grind [wrE,wrW]
  ·grind [cL]
  ·grind
  ·grind
def QlW (h1:Ok yi) (a:Ok mz) (b:Ok p_):Ok JJ:=okZ [yi,yM,Ai,tA] f27 QtP ⟨h1,QtO a b .ax,FP,vH⟩ QtR
def Vp (x:Nd):Option (Nd×Int):=
 if x.op=1\/x.op=7\/x.op=8 then some (⟨x.op,[],0,0,false,0,x.af⟩,0)
 else if x.op=2 then(if x.r=aY x.r then some (⟨x.op,x.r,0,0,false,0,x.af⟩,0) else none)
 else if x.op=3\/x.op=4 then(if x.af<2 then none else some (⟨x.op,[],0,0,false,0,x.af⟩,x.af))
 else if x.op=5 then(if x.mn<0\/30<x.mn\/30<x.mx\/x.mx< -1\/(0<=x.mx/\x.mx<x.mn) then none else some (⟨x.op,[],x.mn,x.mx,x.lz,0,x.af⟩,1))
 else if x.op=6 then(if x.cap<1\/4<x.cap then none else some (⟨x.op,[],0,0,false,x.cap,x.af⟩,1))
 else none
def Vq (x:Nd):Nd×Int:=lk ((Vp x).getD (nd 0,0))
abbrev WY:=List Nd×Int×Int
def F5 (y:WY):Nd:=y.1.getD y.2.1.toNat (nd 0)
def ob:Option Nat->Int
 | none=>-1
 | some b=>b
def oN (y:WY):Option Nat:=gT y.1 (241-y.2.2.toNat) y.2.1.toNat
def inW (args:List (AV D.E)) (s:St D.E):C WY:=match args with
 | [l,a,d]=>aB (aW D s 7 l) λl=>aP (cQ a) λ_ a=>aP (cQ d) λ_ d=>.ret ((l:List Nd),a,d)
 | _=>.fail
def Vr (y:WY):Prop:=(y.1.length<=1000000/\∀x∈y.1,jl x)/\(0<=y.2.1/\y.2.1<=2000000)/\0<=y.2.2/\y.2.2<=241
def JL:bp D:=cq 138 WY inW Vr (λy=>[.list 7 y.1,Qyy y.2.1,Qyy y.2.2]) λy=>Qyy (ob (lk (oN y)))
def Vs (y:WY):Prop:=y.2.1<y.1.length/\y.2.2<=240/\(Vp (F5 y)).isSome
def Pn (y:WY) (x:Option Nat×Nat):Prop:=(x.1=none\/(x.2:Int)<=(Vq (F5 y)).2)/\x.2<=y.1.length+1/\
 match x.1 with
 | none=>oN y=none
 | some b=>x.2<=b/\b<=y.1.length/\nO (gT y.1 (240-y.2.2.toNat)) ((Vq (F5 y)).2.toNat-x.2) b=oN y
def MM (y:WY) (x:Option Nat×Nat):Nat:=if x.1=none then 0 else y.1.length+1-x.2
def QtS (y:JL.Y):dj D:=⟨[],[],[(4090,⟨Option Nat×Nat,[0,2,9],λx=>[(1,Qyy (ob x.1)),(10,Qyy x.2)],[],λ_=>[],0,Pn y,MM y⟩)],
 [(63,⟨Unit,[0,1,2],λ_=>[(7,.ptr 0 0),(8,.ptr 1 0),(9,Qyy (Vq (F5 y)).2)],[],λ_=>[(0,.cells (D.bm 7 (F5 y)) 149 false),(1,.cells (D.bm 7 (Vq (F5 y)).1) 149 false)],2,λ_=>Vs y,λ_=>0⟩)],1,[]⟩
def QtT (y:JL.Y):Prop:=vc [JL.under (λy=>241-y.2.2.toNat) (241-y.2.2.toNat),Bl] f138 JL QtS y
def Vt:bp D:=cq 102 (List Nd×Int) (λa s=>match a with
 | [l,a]=>aB (aW D s 7 l) λl=>aP (cQ a) λ_ a=>.ret ((l:List Nd),a)
 | _=>.fail) (λy=>Vr (y.1,y.2,0)) (λy=>[.list 7 y.1,Qyy y.2]) λy=>Qyy (ob (lk (oN (y.1,y.2,0))))
def Po:bp D:={ Js with f:=65 }
def Vu (y:List Nd) (x:Nat×Nat):Prop:=x.1<=y.length/\x.2<=x.1/\ij (y.drop x.1) x.2=ij y 0/\1<=y.length/\y.length<=480/\gT y 241 0=some y.length
def QtV (y:Po.Y):dj D:=⟨[],[],[(122,⟨Nat×Nat,[0],λx=>[(3,Qyy ((x.2:Int)+1)),(4,Qyy x.1)],[],λ_=>[],0,Vu y,λx=>y.length-x.1⟩)],[],1,[]⟩
def Vv (y:(List Nd)×Int×Int):Prop:=let c:=F5 y;let q1:=(Vq c).1;let b:=ob (lk (oN y));let f:=(Vq c).2;let w:=!(aE c.af f);let A:=!(sN c.lz q1.lz);let B:=!(aE c.cap q1.cap);let C:=!(aE c.mx q1.mx);let D:=!(aE c.mn q1.mn);let o:=ay .i64 y.2.2 1;let q:=aM (ab y.1) y.2.1;let s:=!(aE (ab c.r) (ab q1.r));let a:=gt (Nd.mk 0 [] 0 0 false 0 0) y.1 y.2.1.toNat;let t:=aD a.mx a.mn;let u:=!(decide (a.r=aY a.r));let e:=λp:Prop=>aa [y.1] (aa [y.2.1,y.2.2] p);let g:Prop:=(a.af=q1.af/\a.op=c.op/\a.r=c.r/\a.mn=c.mn/\a.mx=c.mx/\a.lz=c.lz/\a.cap=c.cap/\a.af=c.af/\(Iv (Vs y)));let j:Prop:=(0=q1.mn/\0=q1.mx/\false=q1.lz/\0=q1.cap/\g);let k:Prop:=(a.op=q1.op/\[]=q1.r/\j);let h:Prop:=(∃z:Unit,e (0=f/\k));let l:Prop:=(∃z:Unit,e (1=f/\a.op=q1.op/\[]=q1.r/\a.mn=q1.mn/\a.mx=q1.mx/\a.lz=q1.lz/\0=q1.cap/\g));let m:Prop:=(aj (aD a.af 2) ((-1)=b/\True) (∃z:Unit,e (a.af=f/\k)));let n:Prop:=(aj (aE a.op 5) (aa [a.mn,a.mx,a.mx] (aa [a.lz,a.lz,a.lz] (aj (aD a.mn 0) ((-1)=b/\True) (aj (aD 30 a.mn) ((-1)=b/\True) (aj (aD 30 a.mx) ((-1)=b/\True) (aj (aD a.mx (-1)) ((-1)=b/\True) (aj (aM 0 a.mx) (aj t ((-1)=b/\True) (l)) (l)))))))) (aj (aE a.op 6) (aj (aD a.cap 1) ((-1)=b/\True) (aj (aD 4 a.cap) ((-1)=b/\True) (∃z:Unit,e (1=f/\a.op=q1.op/\[]=q1.r/\0=q1.mn/\0=q1.mx/\false=q1.lz/\a.cap=q1.cap/\g)))) ((-1)=b/\True)));let i:Prop:=(aj (aE a.op 2) (Iv (a.r.length<=2000000)/\aa [a.r] (aj u ((-1)=b/\True) (∃z:Unit,e (0=f/\a.op=q1.op/\a.r=q1.r/\j)))) (aj (aE a.op 3) (aj (aE a.op 3) (m) (n)) (aj (aE a.op 4) (m) (n))));aj q ((-1)=b/\True) (aj (aD 240 y.2.2) ((-1)=b/\True) (aM 0 y.2.1/\aD y.2.1 (ab y.1)/\(aj (aE a.op 1) (aj (aE a.op 1) (h) (i)) (aj (aE a.op 7) (aj (aE a.op 7) (h) (i)) (aj (aE a.op 8) (h) (i))))/\(∀x:Unit,(Iv (Vs y))->aj w ((-1)=b/\True) (aj D ((-1)=b/\True) (aj C ((-1)=b/\True) (aj A ((-1)=b/\True) (aj B ((-1)=b/\True) (aj s ((-1)=b/\True) ((∃z:(Option Nat)×Nat,aa [y.1] (aa [y.2.2,f] (ay .i64 y.2.1 1=ob z.1/\0=(z.2:Int)/\(Iv (Pn y z)))))/\(∀x1:(Option Nat)×Nat,let d:=ob x1.1;let v:=aD (x1.2:Int) f;(Iv (Pn y x1))->aj v (aj (aM 0 d) (Iv (Vr (y.1,(d,o))/\(241-o.toNat)<(241-y.2.2.toNat))/\aa [y.1] (aa [d,o] (∃z:(Option Nat)×Nat,aa [y.1] (aa [y.2.2,f] (ob (lk (oN (y.1,(d,o))))=ob z.1/\ay .i64 (x1.2:Int) 1=(z.2:Int)/\(Iv (Pn y z/\MM y z<MM y x1))))))) (d=b/\True)) (d=b/\True)))))))))))
def Qay:∀y,Vv y=QtT y:=λy=>by kernel_rfl
def Vw (y:(List Nd)×Int):Prop:=let a:=(y.1,(y.2,(0:Int)));let q1:=ob (lk (oN a));Iv (Vr a)/\aa [y.1] (aa ([y.2,0,q1]:List Int) (True))
def Vx (y:List Nd):Prop:=let b:=ab y;let q1:=(y,((0:Int),(0:Int)));let d:=!(aE (ob (lk (oN q1))) b);aj (aE b 0) (false=dG y/\True) (aj (aD 480 b) (false=dG y/\True) (Iv (Vr q1)/\RAO y (RAG (aj d (false=dG y/\True) ((∃z:Nat×Nat,aa [y] (1=((z.2:Int)+1)/\0=(z.1:Int)/\(Iv (Vu y z))))/\(∀x:Nat×Nat,let a:=(x.1:Int);let c:=gt (Nd.mk 0 [] 0 0 false 0 0) y a.toNat;let e:=!(aE c.cap ((x.2:Int)+1));(Iv (Vu y x))->aj (aD a b) (aM 0 a/\aD a b/\aj (aE c.op 6) (aM 0 a/\aD a b/\aj e (false=dG y/\True) (∃z:Nat×Nat,aa [y] (ay .i64 ((x.2:Int)+1) 1=((z.2:Int)+1)/\ay .i64 a 1=(z.1:Int)/\(Iv (Vu y z/\(y.length-z.1)<(y.length-x.1)))))) (∃z:Nat×Nat,aa [y] (((x.2:Int)+1)=((z.2:Int)+1)/\ay .i64 a 1=(z.1:Int)/\(Iv (Vu y z/\(y.length-z.1)<(y.length-x.1)))))) (true=dG y/\True)))))))
def BE (x b:Nd) (k:Int):Prop:=x.af=k/\x.mn=b.mn/\x.mx=b.mx/\x.lz=b.lz/\x.cap=b.cap/\x.r.length=b.r.length
theorem JM (x:Nd) (h:Vp x=none):oK x=none:=by
 grind [Vp,oK]
theorem JN (x b:Nd) (k:Int) (h:Vp x=some (b,k)):(BE x b k->oK x=some k)/\(¬BE x b k->oK x=none):=by
 grind [Vp,oK,BE]
theorem QaB {x b:Nd} {k:Int} (h:Vp x=some (b,k)):0<=k:=by
 grind [Vp]
theorem QtX (y:WY) (hy:JL.pre y):Vv y:=by
 obtain⟨l,a,d⟩:=y;obtain⟨⟨h1,m⟩,s,F⟩:(l.length<=1000000/\∀x∈l,jl x)/\(0<=a/\a<=2000000)/\0<=d/\d<=241:=hy;obtain⟨a,rfl⟩:=Zau s.1;obtain⟨d,rfl⟩:=Zau F.1;have t:oN (l,(a:Int),(d:Int))=gT l (241-d) a:=rfl;have E:F5 (l,(a:Int),(d:Int))=l.getD a (nd 0):=rfl;have X:l.getD a ⟨0,[],0,0,false,0,0⟩=l.getD a (nd 0):=rfl;unfold Vv;simp only[bN,bj,Zad,Zan,Zao,ZaP,Zbi,aw,dL,ZaX,ZaY,ZaZ,X,E,az];have stop:l.length<=a\/240<d->(-1:Int)=ob (oN (l,(a:Int),(d:Int))):=λh=>by
  rw[t];cases hd:241-d with
  | zero=>rfl
  | succ n=>
   unfold gT;rw[Zac ω];rfl
 refine⟨λk=>stop (.inl ω),λk=>⟨λk2=>stop (.inr ω),λk2=>⟨s.1,k,?_,λhJ=>?_⟩⟩⟩
 ·have H:a<l.length:=ω;have hr:(l.getD a (nd 0)).r.length<=2000000:=by
   grind [List.getElem_mem,jl]
  have bad:Vp (l.getD a (nd 0))=none->(-1:Int)=ob (oN (l,(a:Int),(d:Int))):=λh=>by
   rw[t,show 241-d=(240-d)+1 by omega];unfold gT;rw[Zaa ω,JM _ h];rfl
  have J:∀b g,Vp (l.getD a (nd 0))=some (b,g)->Vq (l.getD a (nd 0))=(b,g)/\Vs (l,(a:Int),(d:Int)):=λb g h=>by
   refine⟨by grind [Vq,az],show(a:Int)<(l.length:Int) by omega,k2,?_⟩;grind
  clear t;generalize oN (l,(a:Int),(d:Int))=W at*
  generalize Vs (l,(a:Int),(d:Int))=q at*
  generalize l.getD a (nd 0)=x at*
  generalize Vq x=Q at*
  unfold Vp at bad J;obtain⟨op,r,mn,mx,lz,cap,af⟩:=x;simp only at bad J hr ⊢;generalize aY r=D at*
  clear m stop;have R:(op=1\/op=7\/op=8)->Q=(⟨op,[],0,0,false,0,af⟩,0)/\q:=λh=>J _ _ (by rw[Zac h])
  have S:op=2->r=D->Q=(⟨op,r,0,0,false,0,af⟩,0)/\q:=λh o=>J _ _ (by grind)
  have T:(op=3\/op=4)->¬af<2->Q=(⟨op,[],0,0,false,0,af⟩,af)/\q:=λh o=>J _ _ (by grind)
  have U:op=5->¬(mn<0\/30<mn\/30<mx\/mx< -1\/(0<=mx/\mx<mn))->Q=(⟨op,[],mn,mx,lz,0,af⟩,1)/\q:=λh o=>J _ _ (by grind)
  have V:op=6->¬(cap<1\/4<cap)->Q=(⟨op,[],0,0,false,cap,af⟩,1)/\q:=λh o=>J _ _ (by grind)
  have L:op=2->¬r=D->-1=ob W:=λh o=>bad (by grind)
  have M:(op=3\/op=4)->af<2->-1=ob W:=λh o=>bad (by grind)
  have N:op=5->(mn<0\/30<mn\/30<mx\/mx< -1\/(0<=mx/\mx<mn))->-1=ob W:=λh o=>bad (by grind)
  have O:op=6->(cap<1\/4<cap)->-1=ob W:=λh o=>bad (by grind)
  have P:¬(op=1\/op=7\/op=8)->op≠2->¬(op=3\/op=4)->op≠5->op≠6->-1=ob W:=λh1 m s F h5=>bad (by grind)
  clear bad J;generalize ob W=w at*
  obtain⟨u,v⟩:=Q;have q0:∀{p:Prop},(op=1\/op=7\/op=8)->(u=(⟨op,[],0,0,false,0,af⟩:Nd)->v=0->q->p)->p:=λh f=>by
   grind
  have q2:∀{p:Prop},op=2->r=D->(u=(⟨op,r,0,0,false,0,af⟩:Nd)->v=0->q->p)->p:=λh o f=>by
   grind
  have q3:∀{p:Prop},(op=3\/op=4)->¬af<2->(u=(⟨op,[],0,0,false,0,af⟩:Nd)->v=af->q->p)->p:=λh o f=>by
   grind
  have q5:∀{p:Prop},op=5->¬(mn<0\/30<mn\/30<mx\/mx< -1\/(0<=mx/\mx<mn))->(u=(⟨op,[],mn,mx,lz,0,af⟩:Nd)->v=1->q->p)->p:=λh o f=>by
   grind
  have q6:∀{p:Prop},op=6->¬(cap<1\/4<cap)->(u=(⟨op,[],0,0,false,cap,af⟩:Nd)->v=1->q->p)->p:=λh o f=>by
   grind
  clear R S T U V
  with_reducible repeat' first | apply And.intro | intro _
  all_goals first
   | assumption
   | (exfalso;omega)
   | (apply P<;>omega)
   | (exact L (by assumption) (by assumption))
   | (apply M<;>omega)
   | (apply N<;>omega)
   | (apply O<;>omega)
   | (refine q0 ω λh1 m s=>?_;subst h1;subst m;first | rfl | assumption)
   | (refine q2 (by assumption) (by assumption) λh1 m s=>?_;subst h1;subst m;first | rfl | assumption)
   | (refine q3 ω ω λh1 m s=>?_;subst h1;subst m;first | rfl | assumption)
   | (refine q5 ω ω λh1 m s=>?_;subst h1;subst m;first | rfl | assumption)
   | (refine q6 ω ω λh1 m s=>?_;subst h1;subst m;first | rfl | assumption)
 ·obtain⟨j1,I,K⟩:=hJ;rw[E] at K;have H:a<l.length:=ω;obtain⟨⟨b,g⟩,B⟩:=Option.isSome_iff_exists.mp K;have hQ:Vq (l.getD a (nd 0))=(b,g):=by grind [Vq,az]
  obtain⟨g1,g2⟩:=JN _ _ _ B;have A:BE (l.getD a (nd 0)) b g->oN (l,(a:Int),(d:Int))=nO (gT l (240-d)) g.toNat (a+1):=λh=>by
   rw[t,show 241-d=(240-d)+1 by omega];grind [gT]
  have j:¬BE (l.getD a (nd 0)) b g->(-1:Int)=ob (oN (l,(a:Int),(d:Int))):=λh=>by
   rw[t,show 241-d=(240-d)+1 by omega];unfold gT;rw[Zaa ω,g2 h];rfl
  rw[hQ];simp only;refine⟨λe=>j λh=>absurd h.1 (by assumption),λe1=>⟨λe=>j λh=>absurd h.2.1 (by assumption),λe2=>⟨λe=>j λh=>absurd h.2.2.1 (by assumption),λe3=>⟨λe=>j λh=>absurd h.2.2.2.1 (by grind [sN]),λe4=>⟨λe=>j λh=>absurd h.2.2.2.2.1 (by assumption),λe5=>⟨λe=>j λh=>by have:=h.2.2.2.2.2;omega,λe6=>?_⟩⟩⟩⟩⟩⟩;have G:BE (l.getD a (nd 0)) b g:=⟨by assumption,by assumption,by assumption,by grind [sN],by assumption,ω⟩;have eW:=A G;have C:∀x:Option Nat×Nat,Pn (l,(a:Int),(d:Int)) x↔((x.1=none\/(x.2:Int)<=g)/\x.2<=l.length+1/\match x.1 with
    | none=>oN (l,(a:Int),(d:Int))=none
    | some c=>x.2<=c/\c<=l.length/\nO (gT l (240-d)) (g.toNat-x.2) c=oN (l,(a:Int),(d:Int))):=λx=>by
   grind [Pn]
  clear t A j G;generalize oN (l,(a:Int),(d:Int))=W at*
  refine⟨⟨(some (a+1),0),by rw[bR ω];rfl,rfl,(C _).mpr ⟨.inr ?_,by simp,by simp,H,by grind⟩⟩,λx hx=>?_⟩
  ·exact QaB B
  obtain⟨z,i⟩:=x;obtain⟨i1,i2,i3⟩:=(C _).mp hx;have hiL:(i:Int)=(i:Int):=rfl;cases z with
  | none=>
   have i3:W=none:=i3;rw[i3];refine⟨λe=>⟨λe2=>absurd (show(0:Int)<=-1 from e2) (by decide),λ_=>rfl⟩,λ_=>rfl⟩
  | some c=>
   obtain⟨c1,c2,c3⟩:i<=c/\c<=l.length/\nO (gT l (240-d)) (g.toNat-i) c=W:=i3;have i1:(i:Int)<=g:=i1.resolve_left (by simp);have I:(d:Int)<=240:=I;refine⟨λe=>⟨λe2=>?_,λe2=>absurd (show(c:Int)<0 from e2) ω⟩,λe=>?_⟩
   ·have e:(i:Int)<g:=e;have Y:ay .i64 (d:Int) 1=((d+1:Nat):Int):=bR ω;have Z:ay .i64 (i:Int) 1=((i+1:Nat):Int):=bR ω;rw[Y];refine⟨⟨⟨⟨h1,m⟩,⟨show(0:Int)<=(c:Int) by omega,show(c:Int)<=2000000 by omega⟩,show(0:Int)<=((d+1:Nat):Int) by omega,show((d+1:Nat):Int)<=241 by omega⟩,ω⟩,(gT l (240-d) c,i+1),?_,Z,(C _).mpr ⟨.inr (show((i+1:Nat):Int)<=g by omega),show i+1<=l.length+1 by omega,?_⟩,?_⟩
    ·rw[show oN (l,ob (some c),((d+1:Nat):Int))=gT l (241-(d+1)) c from rfl,show 241-(d+1)=240-d by omega]
    ·rw[show g.toNat-i=(g.toNat-(i+1))+1 by omega] at c3;unfold nO at c3;have B:=nQ l (240-d) c
     revert c3 B
     grind
    ·grind [MM]
   ·have e:g<=(i:Int):=e;rw[show g.toNat-i=0 by omega] at c3;grind [nO]
def QtY (y:List Nd×Int) (a:Vt.pre y):Vw y:=by
 unfold Vw;simp only[cE,Zai,cC];exact a
def QlX (h:Ok lI):Ok JL:=QY (λy=>241-y.2.2.toNat) Qay (Qgs h) QtX
def QlY (h:Ok lI):Ok Vt:=okZ [JL] f102 (λ_=>dk ()) (QlX h) QtY
theorem QtZ (y:List Nd) (q:Po.pre y):Vx y:=by
 have o:∀x∈y,jl x:=q;unfold Vx;simp only[bN,bj,Zad,Zan,Zao,ZaP,Zbi,aw,dL,ZaX,ZaY,ZaZ,az];have d:oN (y,(0:Int),(0:Int))=gT y 241 0:=rfl;have f:=Pd y;rw[d,<-f];clear f d;unfold Jr;refine⟨λk=>?_,λk=>⟨λk2=>?_,λk2=>⟨⟨⟨show y.length<=1000000 by omega,o⟩,⟨show(0:Int)<=0 by omega,show(0:Int)<=2000000 by omega⟩,show(0:Int)<=0 by omega,show(0:Int)<=241 by omega⟩,λk3=>?_,λk3=>⟨⟨(0,0),rfl,rfl,Zaj _,Zah _,rfl,ω,ω,?_⟩,λx p=>?_⟩⟩⟩⟩
 ·grind
 ·grind
 ·have e:¬gT y 241 0=some y.length:=λh=>k3 (by rw[h];rfl)
  grind
 ·revert k3
  generalize gT y 241 0=w;intro k3;cases w with
  | none=>exact absurd (show(-1:Int)=(y.length:Int) from k3) ω
  | some b=>rw[show b=y.length by have:(b:Int)=(y.length:Int):=k3;omega]
 ·obtain⟨i,g⟩:=x;obtain⟨c1,c2,c3,c4,c5,c6⟩:i<=y.length/\g<=i/\ij (y.drop i) g=ij y 0/\1<=y.length/\y.length<=480/\gT y 241 0=some y.length:=p;rw[show decide (1<=y.length)=true by grind,show decide (y.length<=480)=true by grind,c6,ZcB,ZbI,ZbI,ZbI,<-c3];refine⟨λe=>?_,λe=>?_⟩
  ·have e:i<y.length:=ω;have n:ay .i64 (i:Int) 1=((i+1:Nat):Int):=bR ω;have m:ay .i64 ((g:Int)+1) 1=((g+1:Nat):Int)+1:=by grind
   have l:y.getD i ⟨0,[],0,0,false,0,0⟩=y.getD i (nd 0):=rfl;have j:y.drop i=y.getD i (nd 0)::y.drop (i+1):=by
    simp_all
   generalize a:ij y 0=r at*
   simp only[l,n,m,Zad] at c3 ⊢;rw[j] at c3 ⊢;unfold ij at c3 ⊢;refine⟨ω,ω,λc=>⟨ω,ω,λe2=>?_,λe2=>?_⟩,λc=>?_⟩
   ·grind
   ·rw[Zac c,Zac e2] at c3;exact⟨(i+1,g+1),rfl,rfl,⟨by assumption,ω,c3.trans a.symm,c4,c5,c6⟩,ω⟩
   ·rw[Zaa c] at c3;exact⟨(i+1,g),rfl,rfl,⟨by assumption,ω,c3.trans a.symm,c4,c5,c6⟩,ω⟩
  ·have e:¬i<y.length:=ω;rw[show y.drop i=[] from Za9 ω];rfl
def Qey (h:Ok lI):Ok Po:=okZ [Vt] f65 QtV (QlY h) QtZ
def bI:ah:=.mk 0 [] 0 0 false 0 0 []
def JO (v:AV D.E):C ah:=aB (asAgg v) λcs=>ug D 15 cs
def iJ (op:Int):List ah->ah
 | []=>.mk 1 [] 0 0 false 0 0 []
 | [k]=>k
 | a=>.mk op [] 0 0 false 0 0 a
def Qg6 (args:List (AV D.E)) (s:St D.E):C (Int×List ah):=match args with
 | [o,l]=>aP (cQ o) λ_ o=>aB (aW D s 15 l) λl=>.ret (o,(l:List ah))
 | _=>.fail
def Pp:bp D:=cq 131 (Int×List ah) Qg6 (λy=>y.2.length<=1000000) (λy=>[Qyy y.1,.list 15 y.2]) λy=>.agg (D.bm 15 (lk (iJ y.1 y.2)))
def fi (x:Nd):Bool:=x.op==5&&!x.lz&&x.mx==-1&&decide (x.mn<=1)
def Vy:bp D:=cq 135 Nd (λa _=>Qlm a) (λ_=>True) (λy=>[.agg (D.bm 7 y)]) λy=>.bool (fi y)
def aI (op:Int) (a:List ah):List ah:=a.flatMap λk=>if k.op=op then k.af else[k]
def Pq:bp D:=cq 128 (Int×List ah) Qg6 (λy=>y.2.length<=1000000/\(aI y.1 y.2).length<=1000000) (λy=>[Qyy y.1,.list 15 y.2]) λy=>.list 15 (aI y.1 y.2)
def Qt2 (y:Pq.Y):dj D:=⟨[],[],[(58,⟨Nat,[0,8,9],λx=>[(5,.grow 15 (aI y.1 (y.2.take x)) 0),(10,Qyy x)],[],λ_=>[(0,.tok 15 152)],1,λx=>x<=y.2.length/\(aI y.1 (y.2.take x)).length<=1000000,λx=>y.2.length-x⟩)],[],1,[]⟩
def kk (f:List Nd->Option (ah×List Nd)):Nat->List Nd->Option (List ah×List Nd)
 | 0,l=>some ([],l)
 | k+1,l=>match f l with
  | none=>none
  | some (t,a)=>match kk f k a with
   | none=>none
   | some (c,b)=>some (t::c,b)
def gh:Nat->List Nd->Option (ah×List Nd)
 | 0,_=>none
 | _+1,[]=>none
 | n+1,x::l=>match kk (gh n) x.af.toNat l with
  | none=>none
  | some (b,a)=>some (.mk x.op x.r x.mn x.mx x.lz x.cap x.af b,a)
def cw (l:List Nd):ah×List Nd:=lk ((gh l.length l).getD (bI,[]))
def JP:bp D:=cq 58 (List Nd) Qaa (λy=>y.length<=1000000/\(gh y.length y).isSome) (λy=>[.list 7 y]) λy=>.tuple [.agg (D.bm 15 (cw y).1),.list 7 (cw y).2]
def uL (y:List Nd):Nd:=y.getD 0 (nd 0)
def Pr (y:List Nd) (x:List ah×List Nd×Nat):Prop:=x.1.length=x.2.2/\x.2.2<=(uL y).af.toNat/\x.2.1.length<y.length/\x.1.length+x.2.1.length+1<=y.length/\∃a l,kk (gh x.2.1.length) ((uL y).af.toNat-x.2.2) x.2.1=some (a,l)/\x.1++a=(cw y).1.af/\l=(cw y).2
def Qt4 (y:JP.Y):dj D:=⟨[],[],[(122,⟨List ah×List Nd×Nat,[],λx=>[(0,.list 7 x.2.1),(2,.ptr 2 0),(4,.ptr 0 0),(14,Qyy (uL y).af),(15,Qyy x.2.2)],[],λx=>[(0,.cells [Qyy (uL y).op,.list 6 (uL y).r,Qyy (uL y).mn,Qyy (uL y).mx,.bool (uL y).lz,Qyy (uL y).cap,Qyy (uL y).af,.grow 15 x.1 1] 152 false),(1,.tok 15 152),(2,.cells (D.bm 15 bI) 152 false)],3,Pr y,λx=>(uL y).af.toNat-x.2.2⟩)],[],1,[]⟩
def Qt5 (y:JP.Y):Prop:=vc [JP.under (λy=>y.length) y.length] f58 JP Qt4 y
mutual
def aH:ah->List Nd
 | .mk op r mn mx lz cap _ ks=>⟨op,r,mn,mx,lz,cap,ks.length⟩::aC ks
def aC:List ah->List Nd
 | []=>[]
 | t::ts=>aH t++aC ts
end
def dD (t:ah):List Nd:=lk (aH t)
def dI (t:ah):Nat:=lk (SizeOf.sizeOf t)
def dX (t:ah):Prop:=(aH t).length<=1000000/\∀x∈aH t,jl x
def JQ:bp D:=cq 60 ah (λa _=>match a with
 | [t]=>JO t
 | _=>.fail) dX (λy=>[.agg (D.bm 15 y)]) λy=>.list 7 (dD y)
def qi (y:ah) (n:Nat):List Nd:=lk (⟨y.op,y.r,y.mn,y.mx,y.lz,y.cap,y.af.length⟩::aC (y.af.take n))
def Qt6 (y:JQ.Y):dj D:=⟨[],[],[(506,⟨Nat,[20,21],λx=>[(4,.grow 7 (qi y x) 0),(22,Qyy x)],[],λ_=>[(0,.tok 7 149)],1,λx=>x<=y.af.length,λx=>y.af.length-x⟩)],[],1,[]⟩
def Qt7 (y:JQ.Y):Prop:=vc [JQ.under dI (dI y)] f60 JQ Qt6 y
def Vz (y:Int×(List ah)):Prop:=let a:=lk (iJ y.1 y.2);let q1:=gt (ah.mk 0 [] 0 0 false 0 0 []) y.2 0;aj (aE (ab y.2) 0) (1=a.op/\[]=a.r/\0=a.mn/\0=a.mx/\false=a.lz/\0=a.cap/\0=a.nk/\[]=a.af/\True) (aj (aE (ab y.2) 1) (Tt 1 (aD 0 (ab y.2)/\q1.op=a.op/\q1.r=a.r/\q1.mn=a.mn/\q1.mx=a.mx/\q1.lz=a.lz/\q1.cap=a.cap/\q1.nk=a.nk/\q1.af=a.af/\True)) (y.1=a.op/\[]=a.r/\0=a.mn/\0=a.mx/\false=a.lz/\0=a.cap/\0=a.nk/\y.2=a.af/\True))
def VA (y:Nd):Prop:=aj (aE y.op 5) (aj (!y.lz) (aj (aE y.mx (-1)) (aM y.mn 1=fi y/\True) (false=fi y/\True)) (false=fi y/\True)) (false=fi y/\True)
def VB (y:Int×(List ah)):Prop:=let b:=y.2.length;let q1:=ab y.2;let d:=λp:Prop=>aa [y.1] (aa [y.2] (aa [q1] p));(∃z:Nat,let e:=aI y.1 (List.take z y.2);d ([]=e/\0=(z:Int)/\(Iv (z<=b/\e.length<=1000000))))/\(∀x:Nat,let c:=aI y.1 (List.take x y.2);let a:=gt (ah.mk 0 [] 0 0 false 0 0 []) y.2 (x:Int).toNat;let f:=bn c [ah.mk a.op a.r a.mn a.mx a.lz a.cap a.nk a.af];(Iv (x<=b/\c.length<=1000000))->aj (aD (x:Int) q1) (aM 0 (x:Int)/\aD (x:Int) q1/\aj (aE a.op y.1) (ba (ab (bn c a.af)) 96/\∃z:Nat,let g:=aI y.1 (List.take z y.2);d (bn c a.af=g/\ay .i64 (x:Int) 1=(z:Int)/\(Iv ((z<=b/\g.length<=1000000)/\(b-z)<(b-x))))) (ba (ab f) 96/\∃z:Nat,let h:=aI y.1 (List.take z y.2);d (f=h/\ay .i64 (x:Int) 1=(z:Int)/\(Iv ((z<=b/\h.length<=1000000)/\(b-z)<(b-x)))))) (c=aI y.1 y.2/\True))
abbrev RAH (p:Prop):Prop:=aa ([[]]:List (List (Int×Int))) p
abbrev RAK (p:Prop):Prop:=aa ([[]]:List (List ah)) p
def VC (y:List Nd):Prop:=let a:=uL y;let q1:=(cw y).1;let b:=gt (Nd.mk 0 [] 0 0 false 0 0) y 0;let f:=λp:Prop=>RAG (RAH (RAF p));let g:=λp:Prop=>RAF (RAK p);Tt 1 (aD 0 (ab y)=true/\Tt 1 (aM 1 (ab y)=true/\(∃z:(List ah)×(List Nd)×Nat,o_ y 1=z.2.1/\b.af=a.af/\0=(z.2.2:Int)/\b.op=a.op/\b.r=a.r/\b.mn=a.mn/\b.mx=a.mx/\b.lz=a.lz/\b.cap=a.cap/\b.af=a.af/\[]=z.1/\f (false=false/\g ((Iv (Pr y z)))))/\(∀x:(List ah)×(List Nd)×Nat,let d:=x.2.1.length;let c:=(cw x.2.1).1;let h:=aD (x.2.2:Int) a.af;let e:=bn x.1 [ah.mk c.op c.r c.mn c.mx c.lz c.cap c.nk c.af];(Iv (Pr y x))->aj h (Iv ((d<=1000000/\Option.isSome (gh d x.2.1)=true)/\d<y.length)/\RAO x.2.1 (ba (ab e) 96=true/\∃z:(List ah)×(List Nd)×Nat,(cw x.2.1).2=z.2.1/\aa [a.af] (ay .i64 (x.2.2:Int) 1=(z.2.2:Int)/\aa [a.op] (aa [a.r] (aa [a.mn,a.mx] (aa [a.lz] (aa [a.cap,a.af] (e=z.1/\f (false=false/\g ((Iv (Pr y z/\(a.af.toNat-z.2.2)<(a.af.toNat-x.2.2))))))))))))) (a.op=q1.op/\a.r=q1.r/\a.mn=q1.mn/\a.mx=q1.mx/\a.lz=q1.lz/\a.cap=q1.cap/\a.af=q1.nk/\x.1=q1.af/\x.2.1=(cw y).2/\True))))
def QaF:∀y,VC y=Qt5 y:=λy=>by kernel_rfl
abbrev RA0 (v:ah) (p:Prop):Prop:=aa [v.op] (aa [v.r] (aa [v.mn] (aa [v.mx] (aa [v.lz] (aa [v.cap] (aa [v.nk] p))))))
def VD (y:ah):Prop:=let b:=y.af;let q1:=ab b;ba (ab y.r) 8=true/\(∃z:Nat,RAP b q1 (([Nd.mk y.op y.r y.mn y.mx y.lz y.cap q1]:List Nd)=qi y z/\0=(z:Int)/\(Iv (z<=b.length))))/\(∀x:Nat,let c:=b.length;let a:=gt (ah.mk 0 [] 0 0 false 0 0 []) b (x:Int).toNat;let d:=ah.mk a.op a.r a.mn a.mx a.lz a.cap a.nk a.af;let e:=bn (qi y x) (dD d);(Iv (x<=c))->aj (aD (x:Int) q1) (aM 0 (x:Int)=true/\aD (x:Int) q1=true/\Iv (dX d/\dI d<dI y)/\RA0 a (RAO a.af (ba (ab e) 72=true/\∃z:Nat,aa [b] (aa [q1] (e=qi y z/\ay .i64 (x:Int) 1=(z:Int)/\(Iv (z<=c/\(c-z)<(c-x)))))))) (qi y x=dD y/\True))
def QaG:∀y,VD y=Qt7 y:=λy=>by kernel_rfl
theorem bX (t:ah):ah.mk t.op t.r t.mn t.mx t.lz t.cap t.nk t.af=t:=by cases t;rfl
theorem Qt8 (y:Int×List ah) (d:Pp.pre y):Vz y:=by
 obtain⟨op,c⟩:=y;unfold Vz;simp only[bN,bj,aw,dL,az]
 match c with
 | []=>exact⟨λ_=>⟨rfl,rfl,rfl,rfl,rfl,rfl,rfl,rfl⟩,λh=>absurd rfl h⟩
 | [k]=>exact⟨λh=>by grind,λ_=>⟨λ_=>⟨by simp,rfl,rfl,rfl,rfl,rfl,rfl,rfl,rfl⟩,λh=>by grind⟩⟩
 | a::b::l=>exact⟨λh=>by grind,λ_=>⟨λh=>by grind,λ_=>⟨rfl,rfl,rfl,rfl,rfl,rfl,rfl,rfl⟩⟩⟩
def Qez:Ok Pp:=okZ [] f131 (λ_=>dk ()) trivial Qt8
theorem Qt9 (y:Nd) (_:Vy.pre y):VA y:=by
 grind [VA,fi]
def QlZ:Ok Vy:=okZ [] f135 (λ_=>dk ()) trivial Qt9
theorem JR (op:Int) (a b:List ah):aI op (a++b)=aI op a++aI op b:=by grind [aI]
theorem lK (op:Int) (l:List ah) (n:Nat):(aI op (l.take n)).length<=(aI op l).length:=by
 grind [List.take_append_drop,JR]
theorem cy {α:Type} {l:List α} {n:Nat} (d:α) (h:n<l.length):l.take (n+1)=l.take n++[l.getD n d]:=by
 simp_all
theorem Qua (y:Int×List ah) (c:Pq.pre y):VB y:=by
 obtain⟨op,a⟩:=y;obtain⟨h1,d⟩:a.length<=1000000/\(aI op a).length<=1000000:=c;unfold VB;simp only[bN,bj,aw,a_,bq,dL,bX,Zad];refine⟨⟨0,by rfl,rfl,ω,by simp[aI]⟩,λx f=>⟨λe=>⟨ω,e,λb=>?_,λb=>?_⟩,λe=>?_⟩⟩
 ·have e:x<a.length:=ω;have ht:=cy bI e;have hs:aI op (a.take (x+1))=aI op (a.take x)++(a.getD x bI).af:=by
   grind [aI]
  grind [lK]
 ·have e:x<a.length:=ω;have ht:=cy bI e;have hs:aI op (a.take (x+1))=aI op (a.take x)++[a.getD x bI]:=by
   grind [aI]
  grind [lK]
 ·grind
def Ql0:Ok Pq:=okZ [] f128 Qt2 trivial Qua
theorem BF {f:List Nd->Option (ah×List Nd)} (c:∀l t a,f l=some (t,a)->a.length<l.length):∀(k:Nat) (l:List Nd) (b:List ah) (a:List Nd),kk f k l=some (b,a)->a.length<=l.length
 | 0,l,b,a,h=>by cases h;exact Zah _
 | k+1,l,b,a,h=>by
  unfold kk at h;split at h
  ·cases h
  ·rename_i t g ht
   split at h
   ·cases h
   ·rename_i e i d
    cases h;have:=c _ _ _ ht;have:=BF c k _ _ _ d;omega
theorem tE:∀(n:Nat) (l:List Nd) (t:ah) (a:List Nd),gh n l=some (t,a)->a.length<l.length
 | 0,_,_,_,h=>nomatch h
 | _+1,[],_,_,h=>nomatch h
 | n+1,x::l,t,a,h=>by
  unfold gh at h;split at h
  ·cases h
  ·rename_i d c b
   cases h;have:=BF (tE n) _ _ _ _ b;simp;omega
theorem qj {f g:List Nd->Option (ah×List Nd)} (N:Nat) (b:∀l t a,f l=some (t,a)->a.length<l.length) (h:∀l,l.length<=N->f l=g l):∀(k:Nat) (l:List Nd),l.length<=N->kk f k l=kk g k l
 | 0,l,_=>rfl
 | k+1,l,hl=>by
  unfold kk;rw[<-h l hl];cases e:f l with
  | none=>rfl
  | some p=>
   obtain⟨t,a⟩:=p;have:=b _ _ _ e;simp only;rw[qj N b h k a ω]
theorem F6:∀(n m:Nat) (l:List Nd),l.length<=n->l.length<=m->gh n l=gh m l
 | 0,0,l,_,_=>rfl
 | 0,m+1,l,h,_=>by
  cases l with
  | nil=>rfl
  | cons a l=>simp at h
 | n+1,0,l,_,h=>by
  cases l with
  | nil=>rfl
  | cons a l=>simp at h
 | n+1,m+1,l,h1,b=>by
  cases l with
  | nil=>rfl
  | cons a l=>
   simp only[Zae] at h1 b;unfold gh;rw[qj l.length (tE n) (λc hl=>F6 n m c ω ω) _ l (Zah _)]
theorem Qub (y:List Nd) (A:JP.pre y):VC y:=by
 obtain⟨h1,v⟩:y.length<=1000000/\(gh y.length y).isSome:=A;cases y with
 | nil=>cases v
 | cons X b=>
 have o:uL (X::b)=X:=rfl;obtain⟨a,c,q⟩:∃a c,kk (gh b.length) X.af.toNat b=some (a,c):=by
  grind [gh]
 have n:cw (X::b)=(ah.mk X.op X.r X.mn X.mx X.lz X.cap X.af a,c):=by
  grind [cw,az,gh]
 unfold VC;rw[n,o];simp only[bN,bj,aw,a_,bq,dL,bX,Zad];have h:∀x,Pr (X::b) x↔(x.1.length=x.2.2/\x.2.2<=X.af.toNat/\x.2.1.length<b.length+1/\x.1.length+x.2.1.length+1<=b.length+1/\∃j l,kk (gh x.2.1.length) (X.af.toNat-x.2.2) x.2.1=some (j,l)/\x.1++j=a/\l=c):=λx=>by
  unfold Pr;rw[n,o];exact ZbW
 have C:b.length+1<=1000000:=by assumption
 refine⟨by grind,by grind,⟨([],b,0),rfl,rfl,rfl,rfl,rfl,rfl,rfl,rfl,rfl,rfl,rfl,(h _).mpr ⟨rfl,Zaj _,Zbr _,by simp,a,c,q,rfl,rfl⟩⟩,λx z=>?_⟩;obtain⟨m,rest,i⟩:=x;obtain⟨c1,c2,c3,c4,j,l,c5,c6,c7⟩:=(h _).mp z;simp only at c1 c2 c3 c4 c5 c6 c7 ⊢;refine⟨λe=>?_,λe=>?_⟩
 ·rw[show X.af.toNat-i=(X.af.toNat-(i+1))+1 by omega] at c5;unfold kk at c5;cases f:gh rest.length rest with
  | none=>rw[f] at c5;cases c5
  | some p=>
   obtain⟨t,d⟩:=p;rw[f] at c5;simp only at c5;have u:cw rest=(t,d):=by grind [cw,az]
   have w:=tE _ _ _ _ f;rw[qj (g:=gh d.length) d.length (tE _) (λB hl=>F6 _ _ B ω hl) _ d (Zah _)] at c5;split at c5
   ·cases c5
   ·rename_i k D s
    cases c5;rw[u];refine⟨⟨⟨ω,rfl⟩,by assumption⟩,by grind,(m++[t],d,i+1),rfl,bR ω,rfl,(h _).mpr ⟨by grind,show i+1<=X.af.toNat by omega,by grind,by grind,k,l,s,by grind,c7⟩,show X.af.toNat-(i+1)<X.af.toNat-i by omega⟩
 ·rw[show X.af.toNat-i=0 by omega] at c5;cases c5;exact⟨rfl,rfl,rfl,rfl,rfl,rfl,rfl,show m=a by grind,c7⟩
def Ql1:Ok JP:=QY (λy=>y.length) QaF trivial Qub
theorem cU (a b:List ah):aC (a++b)=aC a++aC b:=by
 induction a with
 | nil=>simp[aC]
 | cons x a c=>simp[aC,c]
theorem b6 (y:ah):aH y=⟨y.op,y.r,y.mn,y.mx,y.lz,y.cap,y.af.length⟩::aC y.af:=by
 cases y;rw[aH];rfl
theorem jo {y:ah} {n:Nat} (h:n<y.af.length):dI (y.af.getD n bI)<dI y:=by
 unfold dI;rw[az,az,fh h];have:=ZdR (Zas h);obtain⟨op,r,mn,mx,lz,cap,nk,a⟩:=y;grind [ah.af]
theorem Quc (y:ah) (f:JQ.pre y):VD y:=by
 obtain⟨h1,b⟩:(aH y).length<=1000000/\∀x∈aH y,jl x:=f;have i:y.r.length<=1000000:=by
  have:=b ⟨y.op,y.r,y.mn,y.mx,y.lz,y.cap,y.af.length⟩ (by grind [b6]);exact this
 unfold VD;simp only[bN,bj,aw,a_,bq,dL,bX,Zad,qi,dD,az];have key:∀l:List ah,l.length<=(aC l).length:=by
  intro l
  induction l with
  | nil=>simp
  | cons a l k=>simp only[aC,Zab,Zae];rw[b6];simp;omega
 have h0:=h1;rw[b6] at h1;simp only[Zae] at h1;have hk:=key y.af;refine⟨ω,⟨0,rfl,rfl,Zaj _⟩,λx j=>⟨λe=>?_,λe=>?_⟩⟩
 ·have e:x<y.af.length:=ω;have ht:=cy bI e;have g:y.af=y.af.take x++(y.af.getD x bI::y.af.drop (x+1)):=by
   simp_all
  have c:aC y.af=aC (y.af.take x)++(aH (y.af.getD x bI)++aC (y.af.drop (x+1))):=by
   grind [cU,aC]
  have hs:aC (y.af.take (x+1))=aC (y.af.take x)++aH (y.af.getD x bI):=by
   grind [cU,aC]
  have hlen:=ZaR List.length c;simp only[Zab] at hlen;have d:y.af.getD x (ah.mk 0 [] 0 0 false 0 0 [])=y.af.getD x bI:=rfl;rw[d];refine⟨ω,e |> λh=>ω,⟨⟨ω,λz hz=>b z ?_⟩,jo e⟩,?_,x+1,?_,bR ω,ω,ω⟩
  ·grind [b6]
  ·grind
  ·grind
 ·grind [b6]
def Ql2:Ok JQ:=QY dI QaG trivial Quc
mutual
def rb:ah->Bool
 | .mk op _ _ _ _ _ _ ks=>op==6||kO ks
def kO:List ah->Bool
 | []=>false
 | t::ts=>rb t||kO ts
end
mutual
def VE:ah->ah->Bool
 | .mk op r mn mx lz cap _ ks,b=>op==b.op&&mn==b.mn&&mx==b.mx&&lz==b.lz&&cap==b.cap&&decide (r=b.r)&&decide (ks.length=b.af.length)&&tF ks b.af
def tF:List ah->List ah->Bool
 | [],_=>true
 | a::l,b::m=>VE a b&&tF l m
 | _::_,[]=>false
end
variable {l:List ah} {i:Nat} {p:ah->Bool}
def fM (t:ah):Bool:=lk (rb t)
def pd (a b:ah):Bool:=lk (VE a b)
def ed (l:List ah):Prop:=(aC l).length<=1000000/\∀x∈aC l,jl x
def vI (l:List ah):Nat:=lk (SizeOf.sizeOf l)
def yO (p:ah->Bool) (l:List ah):Int:=if l.findIdx p<l.length then l.findIdx p else-1
def wa (a:List (AV D.E)):C ah:=match a with
 | [t]=>JO t
 | _=>.fail
def Ql3 (a:List (AV D.E)) (s:St D.E):C (List ah):=match a with
 | [l,_]=>aB (aW D s 15 l) λl=>.ret (l:List ah)
 | _=>.fail
def Pt:bp D:=cq 134 ah (λa _=>wa a) dX (λy=>[.agg (D.bm 15 y)]) λy=>.bool (fM y)
def VF:bp D:=cq 157 (List ah) Ql3 ed (λy=>[.list 15 y,.func (.func 134) [] []]) λy=>.bool (y.any fM)
def Pu:bp D:=cq 155 (List ah) Ql3 ed (λy=>[.list 15 y,.func (.func 134) [] []]) λy=>Qyy (yO fM y)
def Ql4 (y:Pu.Y):dj D:=⟨[],[],[(26,{ X:=Nat,aS:=[0,1,7],sl:=λi=>[(8,Qyy i)],kp:=[],pc:=λ_=>[],nx:=0,inv:=λi=>i<=y.length/\∀j,j<i->fM (y.getD j bI)=false,me:=λi=>y.length-i })],[],1,[]⟩
def fgT (n:Nat):vU:=[Pt.under (λy=>3*dI y) n,VF.under (λy=>3*vI y+2) n,Pu.under (λy=>3*vI y+1) n]
def Que (y:Pt.Y):Prop:=vc (fgT (3*dI y)++[]) f134 Pt (λ_=>dk ()) y
def Quf (y:VF.Y):Prop:=vc (fgT (3*vI y+2)++[]) f157 VF (λ_=>dk ()) y
def Qug (y:Pu.Y):Prop:=vc (fgT (3*vI y+1)++[]) f155 Pu Ql4 y
def Ql5 (a:List (AV D.E)):C (ah×ah):=match a with
 | [t,u]=>aB (JO t) λx=>aB (JO u) λy=>.ret (x,y)
 | _=>.fail
def Quh (a:List (AV D.E)) (s:St D.E):C (List ah×List ah):=match a with
 | [l,m,_]=>aB (aW D s 15 l) λl=>aB (aW D s 15 m) λm=>.ret ((l:List ah),(m:List ah))
 | _=>.fail
def Pv:bp D:=cq 159 (ah×ah) (λa _=>Ql5 a) (λy=>dX y.1) (λy=>[.agg (D.bm 15 y.1),.agg (D.bm 15 y.2)]) λy=>.bool (pd y.1 y.2)
def smL (l m:List ah):Bool:=lk (decide (l.length=m.length)&&tF l m)
def Pw:bp D:=cq 185 (List ah×List ah) Quh (λy=>ed y.1) (λy=>[.list 15 y.1,.list 15 y.2,.func (.func 159) [] []]) λy=>.bool (smL y.1 y.2)
def QaH (y:List ah×List ah) (i:Nat):Prop:=i<=y.1.length/\y.1.length=y.2.length/\tF (y.1.drop i) (y.2.drop i)=tF y.1 y.2
def Ql6 (y:Pw.Y):dj D:=⟨[],[],[(58,⟨Nat,[0,1,2,15,16],λi=>[(17,Qyy i)],[],λ_=>[],0,QaH y,λi=>y.1.length-i⟩)],[],1,[]⟩
def fsT (n:Nat):vU:=[Pv.under (λy=>2*dI y.1) n,Pw.under (λy=>2*vI y.1+1) n]
def Qui (y:Pv.Y):Prop:=vc (fsT (2*dI y.1)++[Fv]) f159 Pv (λ_=>dk ()) y
def Quj (y:Pw.Y):Prop:=vc (fsT (2*vI y.1+1)++[]) f185 Pw Ql6 y
def VG (y:ah):Prop:=aj (aE y.op 6) (true=fM y/\True) (Iv (ed y.af/\((3*vI y.af)+2)<(3*dI y))/\aa [y.af] (List.any y.af fM=fM y/\True))
def QaI:∀y,VG y=Que y:=λy=>by kernel_rfl
def VH (y:List ah):Prop:=Iv (ed y/\((3*vI y)+1)<((3*vI y)+2))/\aa [y] (aM 0 (yO fM y)=List.any y fM/\True)
def QaJ:∀y,VH y=Quf y:=λy=>by kernel_rfl
def VI (y:List ah):Prop:=let u:=λz:Nat=>(∀j:Nat,(Nat.le (Nat.succ j) z)->fM (List.getD y j bI)=false);(∃z:Nat,RAP y (ab y) (0=(z:Int)/\(Iv (z<=y.length/\u z))))/\(∀x:Nat,let b:=y.length;let q1:=aD (x:Int) (ab y);let a:=gt (ah.mk 0 [] 0 0 false 0 0 []) y (x:Int).toNat;let c:=ah.mk a.op a.r a.mn a.mx a.lz a.cap a.nk a.af;(Iv (x<=b/\(∀j:Nat,(Nat.le (Nat.succ j) x)->fM (List.getD y j bI)=false)))->aj q1 (aM 0 (x:Int)/\q1/\Iv (dX c/\(3*dI c)<((3*vI y)+1))/\RA0 a (RAO a.af (aj (fM c) ((x:Int)=yO fM y/\True) (∃z:Nat,aa [y] (aa [ab y] (ay .i64 (x:Int) 1=(z:Int)/\(Iv ((z<=b/\u z)/\(b-z)<(b-x))))))))) ((-1)=yO fM y/\True))
def QaK:∀y,VI y=Qug y:=λy=>by kernel_rfl
def VJ (y:ah×ah):Prop:=let a:=y.1.af;let q1:=!(aE y.1.mx y.2.mx);let b:=!(aE y.1.cap y.2.cap);let c:=!(aE y.1.op y.2.op);let d:=!(sN y.1.lz y.2.lz);let e:=!(aE y.1.mn y.2.mn);let f:=!(decide (y.1.r=y.2.r));RA0 y.1 (RA0 y.2 (RA0 y.2 (aj c (false=pd y.1 y.2/\True) (aj e (false=pd y.1 y.2/\True) (aj q1 (false=pd y.1 y.2/\True) (aj d (false=pd y.1 y.2/\True) (aj b (false=pd y.1 y.2/\True) (Iv True/\aa [y.1.r,y.2.r] (aj f (false=pd y.1 y.2/\True) (Iv (ed a/\((2*vI a)+1)<(2*dI y.1))/\aa [a,y.2.af] (smL a y.2.af=pd y.1 y.2/\True)))))))))))
def QaL:∀y,VJ y=Qui y:=λy=>by kernel_rfl
def VK (y:(List ah)×(List ah)):Prop:=let c:=ab y.1;let q1:=!(aE c (ab y.2));aj q1 (false=smL y.1 y.2/\True) ((∃z:Nat,aa [y.1,y.2,y.1] (aa [c] (0=(z:Int)/\(Iv (QaH y z)))))/\(∀x:Nat,let a:=gt (ah.mk 0 [] 0 0 false 0 0 []) y.2 (x:Int).toNat;let b:=gt (ah.mk 0 [] 0 0 false 0 0 []) y.1 (x:Int).toNat;let d:=ah.mk b.op b.r b.mn b.mx b.lz b.cap b.nk b.af;let e:=!(pd d (ah.mk a.op a.r a.mn a.mx a.lz a.cap a.nk a.af));(Iv (QaH y x))->aj (aD (x:Int) c) (aM 0 (x:Int)/\aD (x:Int) c/\aM 0 (x:Int)/\aD (x:Int) (ab y.2)/\Iv (dX d/\(2*dI d)<((2*vI y.1)+1))/\aa [b.op] (aa [b.r] (aa [b.mn,b.mx] (aa [b.lz] (aa [b.cap,b.nk] (aa [b.af] (aa [a.op] (aa [a.r] (aa [a.mn,a.mx] (aa [a.lz] (aa [a.cap,a.nk] (aa [a.af] (aj e (false=smL y.1 y.2/\True) (∃z:Nat,aa [y.1,y.2,y.1] (aa [c] (ay .i64 (x:Int) 1=(z:Int)/\(Iv (QaH y z/\(y.1.length-z)<(y.1.length-x))))))))))))))))))) (true=smL y.1 y.2/\True)))
def QaM:∀y,VK y=Quj y:=λy=>by kernel_rfl
theorem yP (y:ah):vI y.af<dI y:=by
 unfold vI dI;rw[az,az];obtain⟨op,r,mn,mx,lz,cap,nk,a⟩:=y;grind [ah.af]
def Dh (h:i<l.length):dI (l.getD i bI)<vI l:=by
 unfold vI dI;rw[az,az,fh h];exact ZdR (Zas h)
theorem dX.af {y:ah} (h:dX y):ed y.af:=by
 obtain⟨h1,a⟩:=h;rw[b6] at h1;simp only[Zae] at h1;exact⟨ω,λx b=>a x (by grind [b6])⟩
theorem ed.get (h:ed l) {n:Nat} (d:n<l.length):dX (l.getD n bI):=by
 obtain⟨h1,a⟩:=h;have c:l=l.take n++(l.getD n bI::l.drop (n+1)):=by
  simp_all
 have b:aC l=aC (l.take n)++(aH (l.getD n bI)++aC (l.drop (n+1))):=by
  grind [cU,aC]
 have hlen:=ZaR List.length b;simp only[Zab] at hlen;exact⟨ω,λx e=>a x (by grind)⟩
theorem uM (l:List ah):l.length<=(aC l).length:=by
 induction l with
 | nil=>simp
 | cons a l b=>simp only[aC,Zab,Zae];rw[b6];simp;omega
def ed.len (h:ed l):l.length<=1000000:=Zav (uM l) h.1
theorem F7 (l:List ah):kO l=l.any fM:=by
 induction l with
 | nil=>simp[kO]
 | cons a l b=>rw[kO,ZdX,b];congr 1;unfold fM;rw[az]
def VL (y:ah):fM y=(y.op==6||y.af.any fM):=by
 rw[<-F7];unfold fM;rw[az];cases y;rfl
theorem Quk (y:ah) (a:Pt.pre y):VG y:=by
 have a:dX y:=a;unfold VG;simp only[bj,ib,iA];rw[VL];have:=yP y;refine⟨λh=>by grind,λh=>⟨⟨a.af,ω⟩,?_⟩⟩;grind
theorem VM (h:∀j,j<l.length->p (l.getD j bI)=false):yO p l= -1:=by
 grind [yO]
theorem VN (hi:i<l.length) (h:p (l.getD i bI)) (a:∀j,j<i->p (l.getD j bI)=false):yO p l=(i:Int):=by
 grind [List.findIdx_eq,yO]
theorem VO (p:ah->Bool) (l:List ah):aM 0 (yO p l)=l.any p:=by
 grind [yO]
def Qul (y:List ah) (a:VF.pre y):VH y:=by
 unfold VH;simp only[cE,Zai,cC];exact⟨⟨a,ω⟩,VO _ _⟩
theorem Qum (y:List ah) (a:Pu.pre y):VI y:=by
 have a:ed y:=a;have hl:=a.len;unfold VI;simp only[bN,bj,aw,dL,bX,Zad];refine⟨⟨0,rfl,Zaj _,λj d=>absurd d (Zbo _)⟩,λx ⟨g,c⟩=>⟨λe=>?_,λe=>?_⟩⟩
 ·have b:x<y.length:=ω;have c:∀j,j<x->fM (y.getD j bI)=false:=c;have hk:=Dh b;have f:y.getD x (ah.mk 0 [] 0 0 false 0 0 [])=y.getD x bI:=rfl;rw[f];refine⟨ω,e,⟨a.get b,ω⟩,λh=>(VN b h c).symm,λh=>⟨x+1,bR ω,⟨ω,λj d=>?_⟩,ω⟩⟩;grind
 ·grind [VM]
inductive Fg where
 | g | c | i
noncomputable section
def fgC:Fg->bp D
 | .g=>Pt | .c=>VF | .i=>Pu
def Qun:∀i,(fgC i).Y->Nat
 | .g=>λy=>3*dI y | .c=>λy=>3*vI y+2 | .i=>λy=>3*vI y+1
def fgF:Fg->Func
 | .g=>f134 | .c=>f157 | .i=>f155
def fgO:∀i,(fgC i).Y->dj D
 | .g=>λ_=>dk () | .c=>λ_=>dk () | .i=>Ql4
def Quo:∀i,Ok (fgC i):=
 yb [.g,.c,.i] fgC Qun (fn:=fgF) (tab:=λ_=>[]) (jE:=fgO) (λ_=>trivial)
  (λi=>match i with
   | .g=>by kernel_rfl | .c=>by kernel_rfl | .i=>by kernel_rfl)
  (λi=>match i with
   | .g=>by kernel_rfl | .c=>by kernel_rfl | .i=>by kernel_rfl)
  λi=>match i with
   | .g=>λy a=>Eq.mp (QaI y) (Quk y a) | .c=>λy a=>Eq.mp (QaJ y) (Qul y a) | .i=>λy a=>Eq.mp (QaK y) (Qum y a)
end
def Ql7 (a b:ah):pd a b=(a.op==b.op&&a.mn==b.mn&&a.mx==b.mx&&a.lz==b.lz&&a.cap==b.cap&&decide (a.r=b.r)&&smL a.af b.af):=by
 unfold pd smL;rw[az,az];obtain⟨op,r,mn,mx,lz,cap,nk,c⟩:=a;rw[VE];rw[Bool.and_assoc (_&&decide (r=b.r))];rfl
theorem Qup (y:ah×ah) (c:Pv.pre y):VJ y:=by
 obtain⟨a,b⟩:=y;have c:dX a:=c;have:=yP a;unfold VJ;simp only[bj,ib,iA,Zan,Zao,ZaP,Zbi,sN];rw[Ql7];refine⟨λh=>?_,λh1=>⟨λh=>?_,λd=>⟨λh=>?_,λe=>⟨λh=>?_,λf=>⟨λh=>?_,λg=>⟨λh=>?_,λi=>⟨⟨c.af,ω⟩,?_⟩⟩⟩⟩⟩⟩⟩
 ·grind
 ·grind
 ·grind
 ·grind
 ·grind
 ·grind
 ·grind
theorem Px {l m:List ah} {i:Nat} (h1:i<l.length) (a:i<m.length):tF (l.drop i) (m.drop i)=(pd (l.getD i bI) (m.getD i bI)&&tF (l.drop (i+1)) (m.drop (i+1))):=by
 grind [List.drop_eq_getElem_cons,tF,pd,az]
theorem Quq (y:List ah×List ah) (c:Pw.pre y):VK y:=by
 obtain⟨a,b⟩:=y;have c:ed a:=c;have hl:=c.len;unfold VK;simp only[bN,bj,aw,dL,bX,Zad,Zan,Zao,smL,az];refine⟨λh=>by grind,λh=>?_⟩;have h:a.length=b.length:=ω;rw[ZaK h,ZbI];refine⟨⟨0,rfl,Zaj _,h,rfl⟩,λx g=>?_⟩;obtain⟨i1,i2,i3⟩:x<=a.length/\a.length=b.length/\tF (a.drop x) (b.drop x)=tF a b:=g;refine⟨λe=>?_,λe=>?_⟩
 ·have d:x<a.length:=ω;have hk:=Dh d;have f:∀l:List ah,l.getD x (ah.mk 0 [] 0 0 false 0 0 [])=l.getD x bI:=λ_=>rfl
  rw[f,f];rw[Px d ω] at i3;refine⟨ω,e,ω,ω,⟨c.get d,ω⟩,λq=>?_,λq=>⟨x+1,bR ω,⟨show x+1<=a.length by omega,h,?_⟩,ω⟩⟩
  ·grind
  ·grind
 ·grind [tF]
inductive Fs where
 | s | e
noncomputable section
def fsC:Fs->bp D
 | .s=>Pv | .e=>Pw
def Qur:∀i,(fsC i).Y->Nat
 | .s=>λy=>2*dI y.1 | .e=>λy=>2*vI y.1+1
def fsF:Fs->Func
 | .s=>f159 | .e=>f185
def Ql8:Fs->vU
 | .s=>[Fv] | .e=>[]
def fsO:∀i,(fsC i).Y->dj D
 | .s=>λ_=>dk () | .e=>Ql6
def Qus:∀i,Ok (fsC i):=
 yb [.s,.e] fsC Qur (fn:=fsF) (tab:=Ql8) (jE:=fsO)
  (λi=>match i with
   | .s=>QdZ | .e=>trivial)
  (λi=>match i with
   | .s=>by kernel_rfl | .e=>by kernel_rfl)
  (λi=>match i with
   | .s=>by kernel_rfl | .e=>by kernel_rfl)
  λi=>match i with
   | .s=>λy a=>Eq.mp (QaL y) (Qup y a) | .e=>λy a=>Eq.mp (QaM y) (Quq y a)
end
abbrev vJ (l:List ah):List (Nat×AO D.E):=[(0,.arr 15 l 152 false)]
def Py:bp D:=⟨128,Int×List ah,Qg6,λy=>y.2.length<=1000000/\(aI y.1 y.2).length<=1000000,λy=>[Qyy y.1,.list 15 y.2],λ_=>[],λy=>.own 0 8 (ab (aI y.1 y.2)),λy=>vJ (aI y.1 y.2),0,1⟩
def Qut (y:Py.Y):dj D:=⟨[],[6,7],[(58,⟨Nat,[0,8,9],λx=>[(5,.own 0 8 (ab (aI y.1 (y.2.take x)))),(10,Qyy x)],[],λx=>vJ (aI y.1 (y.2.take x)),1,λx=>x<=y.2.length/\(aI y.1 (y.2.take x)).length<=1000000,λx=>y.2.length-x⟩)],[],1,[]⟩
def wV (t:ah):Bool:=t.op==1
def VP:bp D:=cq 130 ah (λa _=>wa a) (λ_=>True) (λy=>[.agg (D.bm 15 y)]) λy=>.bool (wV y)
def Ql9 (v:AV D.E) (s:St D.E):C (List ah):=match v with
 | .own b _ _=>aB (lh s b) λa=>aB (h_ 15 a.c a.xs) λl=>.ret (l:List ah)
 | _=>.fail
def Qma (a:List (AV D.E)) (s:St D.E):C (List ah):=match a with
 | [l,_]=>Ql9 l s
 | _=>.fail
abbrev Qmb (y:List ah):List (AV D.E):=[.own 0 8 (ab y),.func (.func 130) [] []]
def Pz:bp D:=⟨155,List ah,Qma,λy=>y.length<=1000000,Qmb,vJ,λy=>Qyy (yO wV y),vJ,1,1⟩
def Quw (y:Pz.Y):dj D:=⟨[],[],[(26,{ X:=Nat,aS:=[1,7],sl:=λi=>[(0,.own 0 8 (ab y)),(8,Qyy i)],kp:=[],pc:=λ_=>vJ y,nx:=1,inv:=λi=>i<=y.length/\∀j,j<i->wV (y.getD j bI)=false,me:=λi=>y.length-i })],[],1,[]⟩
def iC (y:List ah):List ah:=y.filter λt=>!wV t
def PA:bp D:=⟨129,List ah,Qma,λy=>y.length<=1000000,Qmb,vJ,λy=>.list 15 (lk (iC y)),λ_=>[],1,1⟩
def VQ (y:List ah) (x:List ah×Nat×Nat):Prop:=x.1.length=y.length/\x.2.1<=x.2.2/\x.2.2<=y.length/\x.1.take x.2.1=iC (y.take x.2.2)/\x.1.drop x.2.2=y.drop x.2.2
def Quy (y:PA.Y):dj D:=⟨[],[],[(122,⟨List ah×Nat×Nat,[1],λx=>[(0,.own 0 8 (ab y)),(5,Qyy x.2.1),(6,Qyy x.2.2)],[],λx=>vJ x.1,1,VQ y,λx=>y.length-x.2.2⟩)],[],1,[]⟩
def F8 (t:ah):ah:=iJ 3 (iC (aI 3 t.af))
def ctC:bp D:=cq 95 ah (λa _=>wa a) (λy=>y.af.length<=1000000/\(aI 3 y.af).length<=1000000) (λy=>[.agg (D.bm 15 y)]) λy=>.agg (D.bm 15 (lk (F8 y)))
abbrev sr (k:ah):List (Nat×AO D.E):=[(0,.cells (D.bm 15 k) 152 false)]
def VS (v:AV D.E) (s:St D.E):C ah:=match v with
 | .ptr b _=>aB (dg (s.h.get b)) λo=>match o with
  | .cells cs _ _=>ug D 15 cs
  | _=>.fail
 | _=>.fail
def VT:bp D:=⟨158,ah×ah,λa s=>match a with
 | [x,p]=>aB (JO x) λx=>aB (VS p s) λk=>.ret (x,k)
 | _=>.fail,λy=>dX y.1,λy=>[.agg (D.bm 15 y.1),.ptr 0 0],λy=>sr y.2,λy=>.bool (pd y.1 y.2),λy=>sr y.2,1,1⟩
def Qmd (a:List (AV D.E)) (s:St D.E):C (List ah×ah):=match a with
 | [l,f]=>match f with
  | .func _ _ c=>match c with
   | [p]=>aB (aW D s 15 l) λl=>aB (VS p s) λk=>.ret ((l:List ah),k)
   | _=>.fail
  | _=>.fail
 | _=>.fail
abbrev Qme (y:List ah×ah):List (AV D.E):=[.list 15 y.1,.func (.func 158) [] [.ptr 0 0]]
variable {l:List ah} {a:Nat} {k:ah}
def PB:bp D:=⟨155,List ah×ah,Qmd,λy=>ed y.1,Qme,λy=>sr y.2,λy=>Qyy (yO (λx=>pd x y.2) y.1),λy=>sr y.2,1,1⟩
def QuB (y:PB.Y):dj D:=⟨[],[],[(26,{ X:=Nat,aS:=[0,7],sl:=λi=>[(1,.func (.func 158) [] [.ptr 0 0]),(8,Qyy i)],kp:=[],pc:=λ_=>sr y.2,nx:=1,inv:=λi=>i<=y.1.length/\∀j,j<i->pd (y.1.getD j bI) y.2=false,me:=λi=>y.1.length-i })],[],1,[]⟩
def VU:bp D:=⟨157,List ah×ah,Qmd,λy=>ed y.1,Qme,λy=>sr y.2,λy=>.bool (y.1.any λx=>pd x y.2),λy=>sr y.2,1,1⟩
def eG (out:List ah):List ah->List ah
 | []=>out
 | k::l=>eG (if out.any (λx=>pd x k) then out else out++[k]) l
def PC:bp D:=cq 133 (List ah) (λa s=>match a with
 | [l]=>aB (aW D s 15 l) λl=>.ret (l:List ah)
 | _=>.fail) ed (λy=>[.list 15 y]) λy=>.list 15 (eG [] y)
def VV (y:List ah) (x:List ah×Nat):Prop:=x.2<=y.length/\eG x.1 (y.drop x.2)=eG [] y/\(aC x.1).length<=(aC (y.take x.2)).length/\∀n∈aC x.1,jl n
def QuE (y:PC.Y):dj D:=⟨[],[],[(58,⟨List ah×Nat,[6,7],λx=>[(3,.grow 15 x.1 0),(8,Qyy x.2)],[],λ_=>[(0,.tok 15 152)],1,VV y,λx=>y.length-x.2⟩)],[],1,[]⟩
def VW (y:Int×(List ah)):Prop:=let b:=y.2.length;let q1:=ab y.2;let h:=λp:Prop=>aa [y.1] (aa [y.2] (aa [q1] p));(∃z:Nat,let d:=aI y.1 (List.take z y.2);h (0=ab d/\0=(z:Int)/\[]=d/\(Iv (z<=b/\d.length<=1000000))))/\(∀x:Nat,let c:=aI y.1 (List.take x y.2);let a:=gt (ah.mk 0 [] 0 0 false 0 0 []) y.2 (x:Int).toNat;let i:=ab (bn c a.af);let e:=bn c [ah.mk a.op a.r a.mn a.mx a.lz a.cap a.nk a.af];(Iv (x<=b/\c.length<=1000000))->aj (aD (x:Int) q1) (aM 0 (x:Int)/\aD (x:Int) q1/\aj (aE a.op y.1) (ba i 96/\∃z:Nat,let f:=aI y.1 (List.take z y.2);h (i=ab f/\ay .i64 (x:Int) 1=(z:Int)/\bn c a.af=f/\(Iv ((z<=b/\f.length<=1000000)/\(b-z)<(b-x))))) (ba (ab e) 96/\∃z:Nat,let g:=aI y.1 (List.take z y.2);h (ab e=ab g/\ay .i64 (x:Int) 1=(z:Int)/\e=g/\(Iv ((z<=b/\g.length<=1000000)/\(b-z)<(b-x)))))) (ab c=ab (aI y.1 y.2)/\c=aI y.1 y.2/\True))
def Qmf (y:ah):Prop:=
 aE y.op 1=wV y/\
 True
def VX (y:List ah):Prop:=let u:=λz:Nat=>(∀j:Nat,(Nat.le (Nat.succ j) z)->wV (List.getD y j bI)=false);(∃z:Nat,aa [ab y,ab y] (0=(z:Int)/\aa [y] ((Iv (z<=y.length/\u z)))))/\(∀x:Nat,let b:=y.length;let q1:=aD (x:Int) (ab y);let a:=gt (ah.mk 0 [] 0 0 false 0 0 []) y (x:Int).toNat;let c:=wV (ah.mk a.op a.r a.mn a.mx a.lz a.cap a.nk a.af);(Iv (x<=b/\(∀j:Nat,(Nat.le (Nat.succ j) x)->wV (List.getD y j bI)=false)))->aj q1 (aM 0 (x:Int)/\q1/\Iv True/\RA0 a (RAO a.af (aj c ((x:Int)=yO wV y/\aa [y] (True)) (∃z:Nat,aa [ab y,ab y] (ay .i64 (x:Int) 1=(z:Int)/\aa [y] ((Iv ((z<=b/\u z)/\(b-z)<(b-x))))))))) ((-1)=yO wV y/\RAO y (True)))
def VY (y:List ah):Prop:=let c:=ab y;let q1:=aE (yO wV y) (-1);let u:=ah.mk 0 [] 0 0 false 0 0 [];Iv (y.length<=1000000)/\RAP c y (aj q1 (y=lk (iC y)/\True) ((∃z:(List ah)×Nat×Nat,aa [c] (yO wV y=(z.2.1:Int)/\ay .i64 (yO wV y) 1=(z.2.2:Int)/\y=z.1/\(Iv (VQ y z))))/\(∀x:(List ah)×Nat×Nat,let b:=(x.2.1:Int);let d:=(x.2.2:Int);let a:=gt u x.1 d.toNat;let e:=ah.mk a.op a.r a.mn a.mx a.lz a.cap a.nk a.af;(Iv (VQ y x))->aj (aD d c) (aM 0 d/\aD d c/\Iv True/\aa [a.op] (aa [a.r] (aa [a.mn,a.mx] (aa [a.lz] (aa [a.cap,a.nk] (aa [a.af] (aj (!(wV e)) (aM 0 b/\aD b c/\∃z:(List ah)×Nat×Nat,aa [c] (ay .i64 b 1=(z.2.1:Int)/\ay .i64 d 1=(z.2.2:Int)/\dh x.1 b.toNat e=z.1/\(Iv (VQ y z/\(y.length-z.2.2)<(y.length-x.2.2))))) (∃z:(List ah)×Nat×Nat,aa [c] (b=(z.2.1:Int)/\ay .i64 d 1=(z.2.2:Int)/\x.1=z.1/\(Iv (VQ y z/\(y.length-z.2.2)<(y.length-x.2.2)))))))))))) (aM 0 b/\aM b c/\aM 0 b/\aM b c/\c_ (Ax x.1 b (c-b) (pq (c-b) u)) b=lk (iC y)/\True))))
def Qg7 (y:ah):Prop:=let a:=lk (F8 y);let q1:=aI 3 y.af;let c:=lk (iC q1);let b:=lk (iJ 3 c);Iv (y.af.length<=1000000/\q1.length<=1000000)/\RAP (3:Int) y.af (Iv (q1.length<=1000000)/\aa [ab q1] (aa [q1] (Iv (c.length<=1000000)/\aa ([3]:List Int) (aa [c] (b.op=a.op/\b.r=a.r/\b.mn=a.mn/\b.mx=a.mx/\b.lz=a.lz/\b.cap=a.cap/\b.nk=a.nk/\b.af=a.af/\True)))))
def VZ (y:ah×ah):Prop:=let a:=ah.mk y.1.op y.1.r y.1.mn y.1.mx y.1.lz y.1.cap y.1.nk y.1.af;Iv (dX a)/\RA0 y.1 (RAO y.1.af (RA0 y.2 (RAO y.2.af (pd a (ah.mk y.2.op y.2.r y.2.mn y.2.mx y.2.lz y.2.cap y.2.nk y.2.af)=pd y.1 y.2/\aa [y.2.op] (aa [y.2.r] (aa [y.2.mn,y.2.mx] (aa [y.2.lz] (aa [y.2.cap,y.2.nk] (aa [y.2.af] (True))))))))))
def V0 (y:(List ah)×ah):Prop:=let b:=ab y.1;let q1:=y.1.length;let d:=yO (λ(x:ah)=>pd x y.2) y.1;let c:=λp:Prop=>aa [y.2.op] (aa [y.2.r] (aa [y.2.mn,y.2.mx] (aa [y.2.lz] (aa [y.2.cap,y.2.nk] (aa [y.2.af] p)))));(∃z:Nat,aa [y.1] (aa [b] (0=(z:Int)/\c ((Iv (z<=q1/\(∀j:Nat,(Nat.le (Nat.succ j) z)->pd (List.getD y.1 j bI) y.2=false)))))))/\(∀x:Nat,let a:=gt (ah.mk 0 [] 0 0 false 0 0 []) y.1 (x:Int).toNat;let e:=ah.mk a.op a.r a.mn a.mx a.lz a.cap a.nk a.af;let f:=pd e (ah.mk y.2.op y.2.r y.2.mn y.2.mx y.2.lz y.2.cap y.2.nk y.2.af);(Iv (x<=q1/\(∀j:Nat,(Nat.le (Nat.succ j) x)->pd (List.getD y.1 j bI) y.2=false)))->aj (aD (x:Int) b) (aM 0 (x:Int)/\aD (x:Int) b/\Iv (dX e)/\aa [a.op] (aa [a.r] (aa [a.mn,a.mx] (aa [a.lz] (aa [a.cap,a.nk] (aa [a.af] (aa [y.2.op] (aa [y.2.r] (aa [y.2.mn,y.2.mx] (aa [y.2.lz] (aa [y.2.cap,y.2.nk] (aa [y.2.af] (aj f ((x:Int)=d/\c (True)) (∃z:Nat,aa [y.1] (aa [b] (ay .i64 (x:Int) 1=(z:Int)/\c ((Iv ((z<=q1/\(∀j:Nat,(Nat.le (Nat.succ j) z)->pd (List.getD y.1 j bI) y.2=false))/\(q1-z)<(q1-x)))))))))))))))))))) ((-1)=d/\c (True)))
def V1 (y:(List ah)×ah):Prop:=Iv (ed y.1)/\aa [y.1] (aa [y.2.op] (aa [y.2.r] (aa [y.2.mn,y.2.mx] (aa [y.2.lz] (aa [y.2.cap,y.2.nk] (aa [y.2.af] (aM 0 (yO (λ(x:ah)=>pd x (ah.mk y.2.op y.2.r y.2.mn y.2.mx y.2.lz y.2.cap y.2.nk y.2.af)) y.1)=List.any y.1 (λ(x:ah)=>pd x y.2)/\aa [y.2.op] (aa [y.2.r] (aa [y.2.mn,y.2.mx] (aa [y.2.lz] (aa [y.2.cap,y.2.nk] (aa [y.2.af] (True)))))))))))))
def V2 (y:List ah):Prop:=let c:=λp:Prop=>RAP y (ab y) p;(∃z:(List ah)×Nat,c ([]=z.1/\0=(z.2:Int)/\(Iv (VV y z))))/\(∀x:(List ah)×Nat,let q1:=(x.2:Int);let a:=gt (ah.mk 0 [] 0 0 false 0 0 []) y q1.toNat;let b:=ah.mk a.op a.r a.mn a.mx a.lz a.cap a.nk a.af;let d:=!(List.any x.1 (λ(x1:ah)=>pd x1 b));(Iv (VV y x))->aj (aD q1 (ab y)) (aM 0 q1/\aD q1 (ab y)/\Iv (ed x.1)/\RAO x.1 (RA0 a (RAO a.af (aj d (ba (ab (bn x.1 [b])) 96/\∃z:(List ah)×Nat,c (bn x.1 [b]=z.1/\ay .i64 q1 1=(z.2:Int)/\(Iv (VV y z/\(y.length-z.2)<(y.length-x.2))))) (∃z:(List ah)×Nat,c (x.1=z.1/\ay .i64 q1 1=(z.2:Int)/\(Iv (VV y z/\(y.length-z.2)<(y.length-x.2))))))))) (x.1=eG [] y/\True))
theorem QuG (y:Int×List ah) (c:Py.pre y):VW y:=by
 obtain⟨op,a⟩:=y;obtain⟨h1,d⟩:a.length<=1000000/\(aI op a).length<=1000000:=c;unfold VW;simp only[bN,bj,aw,a_,bq,dL,bX,Zad];refine⟨⟨0,by rfl,rfl,by rfl,ω,by simp[aI]⟩,λx f=>⟨λe=>⟨ω,e,λb=>?_,λb=>?_⟩,λe=>?_⟩⟩
 ·have e:x<a.length:=ω;have ht:=cy bI e;have hs:aI op (a.take (x+1))=aI op (a.take x)++(a.getD x bI).af:=by
   grind [aI]
  grind [lK]
 ·have e:x<a.length:=ω;have ht:=cy bI e;have hs:aI op (a.take (x+1))=aI op (a.take x)++[a.getD x bI]:=by
   grind [aI]
  grind [lK]
 ·grind
def Qmg:Ok Py:=okZ [] f128 Qut trivial QuG
def QeB:Ok VP:=okZ (V:=Qmf) [] f130 (λ_=>dk ()) trivial λy _=>⟨rfl,trivial⟩
theorem QuH (y:List ah) (f:Pz.pre y):VX y:=by
 have hl:y.length<=1000000:=f;unfold VX;simp only[bN,bj,aw,dL,bX,Zad];refine⟨⟨0,rfl,Zaj _,λj b=>absurd b (Zbo _)⟩,λx ⟨g,a⟩=>⟨λe=>?_,λe=>?_⟩⟩
 ·have c:x<y.length:=ω;have a:∀j,j<x->wV (y.getD j bI)=false:=a;have d:y.getD x (ah.mk 0 [] 0 0 false 0 0 [])=y.getD x bI:=rfl;rw[d];refine⟨ω,e,λh=>(VN c h a).symm,λh=>⟨x+1,bR ω,⟨ω,λj b=>?_⟩,ω⟩⟩;grind
 ·grind [VM]
def Qmh:Ok Pz:=okZ [VP] f155 Quw QeB QuH
theorem F9 (p:ah->Bool) (l:List ah):(yO p l= -1/\∀j,j<l.length->p (l.getD j bI)=false)\/∃i:Nat,i<l.length/\yO p l=(i:Int)/\p (l.getD i bI)/\∀j,j<i->p (l.getD j bI)=false:=by
 grind [yO]
theorem F_ (h:∀j,j<l.length->wV (l.getD j bI)=false):iC l=l:=by
 unfold iC;refine List.filter_eq_self.mpr λa b=>?_
 grind [List.getElem_of_mem]
theorem yQ (h:a<l.length):iC (l.take (a+1))=iC (l.take a)++(if wV (l.getD a bI) then[] else[l.getD a bI]):=by
 grind [iC,cy]
theorem V3 (h:a<l.length):(l.set a k).take (a+1)=l.take a++[k]:=by
 rw[cy bI (by grind),List.take_set_of_le (Zah _),fh (by grind),List.getElem_set_self]
theorem QuI (y:List ah) (f:PA.pre y):VY y:=by
 have hl:y.length<=1000000:=f;unfold VY;simp only[bN,bj,aw,dL,bX,Zad,az,Zan,Zao];refine⟨hl,λh=>?_,λh=>?_⟩
 ·grind [F9,F_]
 ·obtain⟨i,i1,i2,i3,i4⟩:∃i:Nat,i<y.length/\yO wV y=(i:Int)/\wV (y.getD i bI)/\∀j,j<i->wV (y.getD j bI)=false:=by
   grind [F9]
  rw[i2];refine⟨⟨(y,i,i+1),rfl,bR ω,rfl,rfl,ZcR _,i1,?_,rfl⟩,λx d=>?_⟩
  ·show y.take i=iC (y.take (i+1))
   grind [yQ,F_]
  ·obtain⟨a,i,j⟩:=x;obtain⟨c1,c2,c3,c4,c5⟩:a.length=y.length/\i<=j/\j<=y.length/\a.take i=iC (y.take j)/\a.drop j=y.drop j:=d;refine⟨λe=>⟨ω,e,?_⟩,λe=>⟨ω,by grind,ω,by grind,?_⟩⟩
   ·have e:j<y.length:=by grind
    have c:a.getD j (ah.mk 0 [] 0 0 false 0 0 [])=y.getD j bI:=by
     grind [List.drop_eq_getElem_cons]
    have b:a.drop (j+1)=y.drop (j+1):=by
     grind [List.drop_eq_getElem_cons]
    rw[c];refine⟨λq=>⟨ω,by grind,(a.set i (y.getD j bI),i+1,j+1),bR (show i<=1000000 by omega),bR (show j<=1000000 by omega),rfl,⟨by grind,show i+1<=j+1 by omega,show j+1<=y.length by omega,?_,?_⟩,show y.length-(j+1)<y.length-j by omega⟩,λq=>⟨(a,i,j+1),rfl,bR (show j<=1000000 by omega),rfl,⟨c1,show i<=j+1 by omega,show j+1<=y.length by omega,?_,b⟩,show y.length-(j+1)<y.length-j by omega⟩⟩
    ·grind [V3,yQ]
    ·grind [List.drop_set_of_lt]
    ·grind [yQ]
   ·grind [c_,Ax,Int.toNat_natCast]
def Qmi:Ok PA:=okZ [VP,Pz] f129 Quy ⟨QeB,Qmh⟩ QuI
def V4 (l:List ah):(iC l).length<=l.length:=List.length_filter_le _ _
def ctH (y:ah) (b:ctC.pre y):Qg7 y:=by
 obtain⟨h1,a⟩:y.af.length<=1000000/\(aI 3 y.af).length<=1000000:=b;have:=V4 (aI 3 y.af);unfold Qg7;simp only[cE,Zai,cC,az];exact⟨⟨h1,a⟩,a,ω,rfl,rfl,rfl,rfl,rfl,rfl,rfl,rfl⟩
def QuJ:Ok ctC:=okZ [Py,PA,Pp] f95 (λ_=>dk ()) ⟨Qmg,Qmi,Qez⟩ ctH
theorem QuK (y:ah×ah) (a:VT.pre y):VZ y:=by
 have a:dX y.1:=a;grind [VZ,bX]
def Qmj:Ok VT:=okZ [Pv] f158 (λ_=>dk ()) (Qus .s) QuK
theorem QuL (y:List ah×ah) (a:PB.pre y):V0 y:=by
 obtain⟨y,k⟩:=y;have a:ed y:=a;have hl:=a.len;unfold V0;simp only[bN,bj,aw,dL,bX,Zad];refine⟨⟨0,rfl,Zaj _,λj d=>absurd d (Zbo _)⟩,λx ⟨g,b⟩=>⟨λe=>?_,λe=>?_⟩⟩
 ·have c:x<y.length:=ω;have b:∀j,j<x->pd (y.getD j bI) k=false:=b;have f:y.getD x (ah.mk 0 [] 0 0 false 0 0 [])=y.getD x bI:=rfl;rw[f];refine⟨ω,e,a.get c,λh=>(VN (p:=λx=>pd x k) c h b).symm,λh=>⟨x+1,bR ω,⟨ω,λj d=>?_⟩,ω⟩⟩;grind
 ·grind [VM]
def Qmk:Ok PB:=okZ [VT] f155 QuB Qmj QuL
def QuM (y:List ah×ah) (a:VU.pre y):V1 y:=by
 unfold V1;simp only[cE,Zai,cC,bX];exact⟨a,VO _ _⟩
def Qml:Ok VU:=okZ [PB] f157 (λ_=>dk ()) Qmk QuM
theorem QuN (y:List ah) (c:PC.pre y):V2 y:=by
 have c:ed y:=c;have hl:=c.len;unfold V2;simp only[bN,bj,aw,a_,bq,dL,bX,Zad,Zan,Zao];refine⟨⟨([],0),rfl,rfl,Zaj _,rfl,Zaj _,λn a=>by grind [aC]⟩,λx j=>?_⟩;obtain⟨o,i⟩:=x;obtain⟨c1,c2,c3,c4⟩:i<=y.length/\eG o (y.drop i)=eG [] y/\(aC o).length<=(aC (y.take i)).length/\∀n∈aC o,jl n:=j;have b:∀n,(aC (y.take n)).length<=(aC y).length:=λn=>by
  grind [List.take_append_drop,cU]
 have hO:ed o:=⟨by have:=b i;have:=c.1;omega,c4⟩;have h:=hO.len;refine⟨λe=>?_,λe=>?_⟩
 ·have d:i<y.length:=ω;have g:y.getD i (ah.mk 0 [] 0 0 false 0 0 [])=y.getD i bI:=rfl;have f:y.drop i=y.getD i bI::y.drop (i+1):=by simp_all
  have k:(aC (y.take (i+1))).length=(aC (y.take i)).length+(aH (y.getD i bI)).length:=by
   grind [cU,aC]
  rw[f,eG] at c2;rw[g];refine⟨ω,e,hO,λq=>?_,λq=>?_⟩
  ·rw[q] at c2;refine⟨by grind,(o++[y.getD i bI],i+1),rfl,bR ω,⟨show i+1<=y.length by omega,by assumption,?_,λn a=>?_⟩,show y.length-(i+1)<y.length-i by omega⟩
   ·grind [cU]
   ·rw[cU,aC,aC,Zaw] at a;rcases List.mem_append.mp a with a | a
    ·grind
    ·exact(c.get d).2 n a
  ·rw[q] at c2;exact⟨(o,i+1),rfl,bR ω,⟨show i+1<=y.length by omega,by assumption,show(aC o).length<=(aC (y.take (i+1))).length by omega,c4⟩,show y.length-(i+1)<y.length-i by omega⟩
 ·grind [eG]
def Qmm:Ok PC:=okZ [VU] f133 QuE Qml QuN
def uN (l:List ah):Prop:=∀t∈l,t.r.length<=1000000
def pe (l:List ah):ah:=l.getD (l.length-1) bI
def qk (r:List Rg):ah:=.mk 2 (aY r) 0 0 false 0 0 []
def dT (out:List ah) (k:ah):List ah:=if out.length≠0/\k.op=2/\(pe out).op=2 then out.set (out.length-1) (qk ((pe out).r++k.r)) else out++[k]
def bQ (out:List ah):List ah->List ah
 | []=>out
 | k::l=>bQ (dT out k) l
def PD:bp D:=cq 132 (List ah) (λa s=>match a with
 | [l]=>aB (aW D s 15 l) λl=>.ret (l:List ah)
 | _=>.fail) (λy=>y.length<=1000000/\uN y) (λy=>[.list 15 y]) λy=>.list 15 (bQ [] y)
def tG (y:List ah) (x:List ah×Nat):Prop:=x.2<=y.length/\bQ x.1 (y.drop x.2)=bQ [] y/\x.1.length<=x.2/\uN x.1
def QuO (y:PD.Y):dj D:=⟨[],[9],[(58,⟨List ah×Nat,[8,9],λx=>[(3,.own 0 8 (ab x.1)),(10,Qyy x.2)],[],λx=>vJ x.1,1,tG y,λx=>y.length-x.2⟩)],[],1,[]⟩
def MN (t:ah):Nd:=⟨t.op,t.r,t.mn,t.mx,t.lz,t.cap,t.nk⟩
def bL (t:ah):ah:=t.af.getD 0 bI
def wb (t:ah):ah:=.mk t.op t.r t.mn t.mx (t.lz&&decide (t.mn≠t.mx)) t.cap t.nk t.af
def Ga (k:ah) (n:Int):ah:=.mk k.op k.r (k.mn*n) k.mx k.lz k.cap k.nk k.af
def dn (t:ah):ah:=
 if (bL t).op=1 then bL t
 else if t.mn=1/\t.mx=1 then bL t
 else if t.mx=0/\fM (bL t)=false then .mk 1 [] 0 0 false 0 0 []
 else if fi (MN (wb t))/\fi (MN (bL t))/\(bL (bL t)).op=2 then Ga (bL t) t.mn
 else wb t
def QaV (y:ah):Prop:=1<=y.af.length/\dX (bL y)/\0<=y.mn/\((bL y).op=5->0<=(bL y).mn/\1<=(bL y).af.length)
def V5:bp D:=cq 97 ah (λa _=>wa a) QaV (λy=>[.agg (D.bm 15 y)]) λy=>.agg (D.bm 15 (lk (dn y)))
def V6 (y:List ah):Prop:=let d:=y.length;let i:=λp:Prop=>RAP y (ab y) p;let u:=ah.mk 0 [] 0 0 false 0 0 [];(∃z:(List ah)×Nat,i (0=ab z.1/\0=(z.2:Int)/\[]=z.1/\(Iv (tG y z))))/\(∀x:(List ah)×Nat,let c:=(x.2:Int);let b:=dE .i64 (ab x.1) 1;let a:=gt u y c.toNat;let e:=gt u x.1 b.toNat;let f:=bn e.r a.r;let g:=bn x.1 [ah.mk a.op a.r a.mn a.mx a.lz a.cap a.nk a.af];let h:Prop:=(ba (ab g) 96/\∃z:(List ah)×Nat,i (ab g=ab z.1/\ay .i64 c 1=(z.2:Int)/\g=z.1/\(Iv (tG y z/\(d-z.2)<(d-x.2)))));(Iv (tG y x))->aj (aD c (ab y)) (aM 0 c/\aD c (ab y)/\aj (aM 0 b) (aj (aE a.op 2) (aM 0 b/\aD b (ab x.1)/\aj (aE e.op 2) (aM 0 b/\aD b (ab x.1)/\ba (ab e.r) 8/\ba (ab f) 8/\RAQ e.r a.r a.r (Iv (f.length<=100000000)/\aa [f] (aM 0 b/\aD b (ab x.1)/\∃z:(List ah)×Nat,i (ab x.1=ab z.1/\ay .i64 c 1=(z.2:Int)/\dh x.1 b.toNat (ah.mk 2 (aY f) 0 0 false 0 0 [])=z.1/\(Iv (tG y z/\(d-z.2)<(d-x.2))))))) (h)) (h)) (h)) (x.1=bQ [] y/\True))
def V7 (y:ah):Prop:=let b:=lk (dn y);let q1:=!(aE y.mn y.mx);let F:=ah.mk 0 [] 0 0 false 0 0 [];let a:=gt F y.af 0;let g:=a.af;let o:=aE (gt F g 0).op 2;let t:=fi (Nd.mk y.op y.r y.mn y.mx false y.cap y.nk);let u:=fi (Nd.mk y.op y.r y.mn y.mx q1 y.cap y.nk);let q:=fi (Nd.mk a.op a.r a.mn a.mx a.lz a.cap a.nk);let n:=ah.mk a.op a.r a.mn a.mx a.lz a.cap a.nk g;let s:=λp:Prop=>RA0 a (RAO g p);let m:=λp:Prop=>RA0 a p;let h:Prop:=(y.cap=b.cap/\y.nk=b.nk/\y.af=b.af/\True);let d:Prop:=(y.op=b.op/\y.r=b.r/\y.mn=b.mn/\y.mx=b.mx/\false=b.lz/\h);let e:Prop:=(y.op=b.op/\y.r=b.r/\y.mn=b.mn/\y.mx=b.mx/\q1=b.lz/\h);let f:Prop:=(a.mx=b.mx/\a.lz=b.lz/\a.cap=b.cap/\a.nk=b.nk/\g=b.af/\True);let c:Prop:=(a.op=b.op/\a.r=b.r/\a.mn=b.mn/\f);let B:=a.op=b.op/\a.r=b.r/\jx .i64 a.mn y.mn=b.mn/\f;let i:Prop:=(Iv True/\RAR y.op y.r y.mn y.mx (false=false/\aa [y.cap,y.nk] (aj t (Iv True/\m (aj q (Tt 1 (aD 0 (ab g)/\aj o B (d))) (d))) (d))));let j:Prop:=(Iv True/\RAV y.op y.r y.mn y.mx q1 y.cap y.nk (aj u (Iv True/\m (aj q (Tt 1 (aD 0 (ab g)/\aj o B (e))) (e))) (e)));let A:=1=b.op/\[]=b.r/\0=b.mn/\0=b.mx/\false=b.lz/\0=b.cap/\0=b.nk/\[]=b.af/\True;let k:Prop:=(aj (aE y.mx 0) (Iv (dX n)/\s (aj (!(fM n)) A (i))) (i));let l:Prop:=(aj (aE y.mx 0) (Iv (dX n)/\s (aj (!(fM n)) A (j))) (j));aj y.lz (Tt 1 (aD 0 (ab y.af)/\aj (aE a.op 1) (c) (aj (aE y.mn 1) (aj (aE y.mx 1) (c) (l)) (l)))) (Tt 1 (aD 0 (ab y.af)/\aj (aE a.op 1) (c) (aj (aE y.mn 1) (aj (aE y.mx 1) (c) (k)) (k))))
theorem Gb:∀(m:List Rg) (b:Int),0<=b->b<=1114112->(∀p∈m,vw p/\b<=p.1)->m.Pairwise (λp q=>p.2+1<q.1)->2*(m.length:Int)<=1114113-b
 | [],b,_,h,_,_=>by grind
 | p::m,b,h0,h,h1,h2=>by
  obtain⟨⟨c1,c2,c3,c4⟩,c5⟩:=h1 p Za8;obtain⟨a,c⟩:=List.pairwise_cons.mp h2;cases m with
  | nil=>simp;omega
  | cons q m=>
   have f:=a q Za8;obtain⟨⟨_,e2,e,_⟩,_⟩:=h1 q (ZaU _ Za8);have:=Gb (q::m) (p.2+2) ω ω (λx d=>⟨(h1 x (ZaU _ d)).1,by grind⟩) c;grind
def lL (l:List Rg):(aY l).length<=1000000:=by
 obtain⟨⟨h1,b⟩,_⟩:=eg l;have:=Gb (aY l) 0 ω ω (λp a=>⟨h1 p a,(h1 p a).1⟩) b;omega
theorem jT (o:List ah) (k:ah):(dT o k).length<=o.length+1:=by
 grind [dT]
theorem Gc (h:uN l) (hk:k.r.length<=1000000):uN (dT l k):=by
 unfold dT;split
 ·intro t ht;rcases Zb1 ht with h1 | h1
  ·exact h t h1
  ·rw[h1];exact lL _
 ·intro t ht;rcases List.mem_append.mp ht with h1 | h1
  ·exact h t h1
  ·grind
theorem QuR (y:List ah) (m:PD.pre y):V6 y:=by
 obtain⟨hl,j⟩:y.length<=1000000/\uN y:=m;unfold V6;simp only[bN,bj,aw,a_,bq,dL,bX,Zad];refine⟨⟨([],0),rfl,rfl,rfl,Zaj _,rfl,Zah _,λt ht=>nomatch ht⟩,λx l=>?_⟩;obtain⟨o,i⟩:=x;obtain⟨c1,c2,c3,c4⟩:i<=y.length/\bQ o (y.drop i)=bQ [] y/\o.length<=i/\uN o:=l;refine⟨λe=>?_,λe=>?_⟩
 ·have p:i<y.length:=ω;have f:y.getD i (ah.mk 0 [] 0 0 false 0 0 [])=y.getD i bI:=rfl;have d:y.drop i=y.getD i bI::y.drop (i+1):=by simp_all
  have hk:(y.getD i bI).r.length<=1000000:=j _ (by grind);rw[d,bQ] at c2;have q:=jT o (y.getD i bI);have n:=Gc c4 hk;have step:∀z,z=dT o (y.getD i bI)->tG y (z,i+1)/\y.length-(i+1)<y.length-i:=λz hz=>by
   subst hz;exact⟨⟨show i+1<=y.length by omega,c2,show(dT o (y.getD i bI)).length<=i+1 by omega,n⟩,ω⟩
  rw[f];simp only;generalize y.getD i bI=k at*
  have b:¬(o.length≠0/\k.op=2/\(pe o).op=2)->(((o++[k]).length:Nat):Int)*(96:Nat)<=140737488355328/\∃z:List ah×Nat,(((o++[k]).length:Nat):Int)=((z.1.length:Nat):Int)/\ay .i64 (i:Int) 1=(z.2:Int)/\o++[k]=z.1/\tG y z/\y.length-z.2<y.length-i:=λh=>by
   grind [dT]
  by_cases h0:o.length=0
  ·rw[h0,show dE .i64 ((0:Nat):Int) 1= -1 from ye ω ω];grind
  ·rw[Br ω ω];have c:o.getD (((o.length-1:Nat):Int).toNat) (ah.mk 0 [] 0 0 false 0 0 [])=pe o:=rfl;have g:(pe o).r.length<=1000000:=c4 _ (by grind);simp only[c];refine⟨ω,e,λ_=>⟨λh1=>⟨ω,ω,λa=>⟨ω,ω,ω,by grind,by grind,ω,ω,(dT o k,i+1),?_,bR ω,?_,step _ rfl⟩,λa=>b λh=>a h.2.2⟩,λh1=>b λh=>h1 h.2.1⟩,λh=>absurd h ω⟩
   ·grind [dT]
   ·show dh o (((o.length-1:Nat):Int).toNat) _=dT o k
    unfold dT;rw[Zac ⟨h0,h1,a⟩];rfl
 ·grind [bQ]
def Qmn (a:Ok cW):Ok PD:=okZ [cW] f132 QuO a QuR
theorem QuS (y:ah) (z:V5.pre y):V7 y:=by
 obtain⟨h1,n,B,C⟩:1<=y.af.length/\dX (bL y)/\0<=y.mn/\((bL y).op=5->0<=(bL y).mn/\1<=(bL y).af.length):=z;have hk:y.af.getD 0 (ah.mk 0 [] 0 0 false 0 0 [])=bL y:=rfl;have s:(bL y).af.getD 0 (ah.mk 0 [] 0 0 false 0 0 [])=bL (bL y):=rfl;unfold V7;simp only[bN,bj,aw,dL,bX,az,hk,s,Zan,Zao];have k:∀x:Nd,fi x->x.op=5/\x.mn<=1:=λx h=>by
  grind [fi]
 have E:∀X,dn y=X->X.op=(dn y).op/\X.r=(dn y).r/\X.mn=(dn y).mn/\X.mx=(dn y).mx/\X.lz=(dn y).lz/\X.cap=(dn y).cap/\X.nk=(dn y).nk/\X.af=(dn y).af:=λX h=>by
  grind
 have V:∀b,wb y=ah.mk y.op y.r y.mn y.mx b y.cap y.nk y.af->¬(bL y).op=1->¬(y.mn=1/\y.mx=1)->¬(y.mx=0/\fM (bL y)=false)->
   (fi ⟨y.op,y.r,y.mn,y.mx,b,y.cap,y.nk⟩->(fi ⟨(bL y).op,(bL y).r,(bL y).mn,(bL y).mx,(bL y).lz,(bL y).cap,(bL y).nk⟩->(0:Int)<((bL y).af.length:Int)/\((bL (bL y)).op=2->jx .i64 (bL y).mn y.mn=(bL y).mn*y.mn/\dn y=Ga (bL y) y.mn)/\((bL (bL y)).op≠2->dn y=wb y))/\(fi ⟨(bL y).op,(bL y).r,(bL y).mn,(bL y).mx,(bL y).lz,(bL y).cap,(bL y).nk⟩=false->dn y=wb y))/\(fi ⟨y.op,y.r,y.mn,y.mx,b,y.cap,y.nk⟩=false->dn y=wb y):=λb j o p q=>by
  have e:dn y=if fi (MN (wb y))/\fi (MN (bL y))/\(bL (bL y)).op=2 then Ga (bL y) y.mn else wb y:=by
   grind [dn]
  have A:fi (MN (wb y))=fi ⟨y.op,y.r,y.mn,y.mx,b,y.cap,y.nk⟩:=by rw[j];rfl
  grind [MN]
 have t:(bL y).op=1->dn y=bL y:=λh=>by grind [dn]
 have u:¬(bL y).op=1->y.mn=1->y.mx=1->dn y=bL y:=λh a b=>by grind [dn]
 have m:¬(bL y).op=1->¬(y.mn=1/\y.mx=1)->y.mx=0->fM (bL y)=false->dn y=.mk 1 [] 0 0 false 0 0 []:=λh a b c=>by grind [dn]
 have F:∀b,wb y=ah.mk y.op y.r y.mn y.mx b y.cap y.nk y.af->dn y=wb y->y.op=(dn y).op/\y.r=(dn y).r/\y.mn=(dn y).mn/\y.mx=(dn y).mx/\b=(dn y).lz/\y.cap=(dn y).cap/\y.nk=(dn y).nk/\y.af=(dn y).af:=λb j h=>by
  rw[h,j];exact⟨rfl,rfl,rfl,rfl,rfl,rfl,rfl,rfl⟩
 have M:jx .i64 (bL y).mn y.mn=(bL y).mn*y.mn/\dn y=Ga (bL y) y.mn->(bL y).op=(dn y).op/\(bL y).r=(dn y).r/\jx .i64 (bL y).mn y.mn=(dn y).mn/\(bL y).mx=(dn y).mx/\(bL y).lz=(dn y).lz/\(bL y).cap=(dn y).cap/\(bL y).nk=(dn y).nk/\(bL y).af=(dn y).af:=λ⟨a,h⟩=>by
  rw[a,h];exact⟨rfl,rfl,rfl,rfl,rfl,rfl,rfl,rfl⟩
 have w:y.lz->wb y=ah.mk y.op y.r y.mn y.mx (!aE y.mn y.mx) y.cap y.nk y.af:=λh=>by
  grind [wb]
 have v:y.lz=false->wb y=ah.mk y.op y.r y.mn y.mx false y.cap y.nk y.af:=λh=>by
  grind [wb]
 refine⟨λl=>?_,λl=>?_⟩
 ·have j:=w l;have W:=λo p q=>V _ j o p q
  have G:=F _ j;refine⟨ω,λk1=>E _ (t k1),λk1=>⟨λk2=>⟨λk3=>E _ (u k1 k2 k3),λk3=>⟨λk4=>⟨n,λk5=>E _ (m k1 (λh=>k3 h.2) k4 k5),λk5=>?_⟩,λk4=>?_⟩⟩,λk2=>⟨λk4=>⟨n,λk5=>E _ (m k1 (λh=>k2 h.1) k4 k5),λk5=>?_⟩,λk4=>?_⟩⟩⟩
  ·obtain⟨f,i⟩:=W k1 (λh=>k3 h.2) (λh=>by grind);exact⟨λo1=>⟨λd=>⟨((f o1).1 d).1,λg=>M (((f o1).1 d).2.1 g),λg=>G (((f o1).1 d).2.2 g)⟩,λd=>G ((f o1).2 d)⟩,λo1=>G (i o1)⟩
  ·obtain⟨f,i⟩:=W k1 (λh=>k3 h.2) (λh=>k4 h.1);exact⟨λo1=>⟨λd=>⟨((f o1).1 d).1,λg=>M (((f o1).1 d).2.1 g),λg=>G (((f o1).1 d).2.2 g)⟩,λd=>G ((f o1).2 d)⟩,λo1=>G (i o1)⟩
  ·obtain⟨f,i⟩:=W k1 (λh=>k2 h.1) (λh=>by grind);exact⟨λo1=>⟨λd=>⟨((f o1).1 d).1,λg=>M (((f o1).1 d).2.1 g),λg=>G (((f o1).1 d).2.2 g)⟩,λd=>G ((f o1).2 d)⟩,λo1=>G (i o1)⟩
  ·obtain⟨f,i⟩:=W k1 (λh=>k2 h.1) (λh=>k4 h.1);exact⟨λo1=>⟨λd=>⟨((f o1).1 d).1,λg=>M (((f o1).1 d).2.1 g),λg=>G (((f o1).1 d).2.2 g)⟩,λd=>G ((f o1).2 d)⟩,λo1=>G (i o1)⟩
 ·have j:=v l;have W:=λo p q=>V _ j o p q
  have G:=F _ j;refine⟨ω,λk1=>E _ (t k1),λk1=>⟨λk2=>⟨λk3=>E _ (u k1 k2 k3),λk3=>⟨λk4=>⟨n,λk5=>E _ (m k1 (λh=>k3 h.2) k4 k5),λk5=>?_⟩,λk4=>?_⟩⟩,λk2=>⟨λk4=>⟨n,λk5=>E _ (m k1 (λh=>k2 h.1) k4 k5),λk5=>?_⟩,λk4=>?_⟩⟩⟩
  ·obtain⟨f,i⟩:=W k1 (λh=>k3 h.2) (λh=>by grind);exact⟨λo1=>⟨λd=>⟨((f o1).1 d).1,λg=>M (((f o1).1 d).2.1 g),λg=>G (((f o1).1 d).2.2 g)⟩,λd=>G ((f o1).2 d)⟩,λo1=>G (i o1)⟩
  ·obtain⟨f,i⟩:=W k1 (λh=>k3 h.2) (λh=>k4 h.1);exact⟨λo1=>⟨λd=>⟨((f o1).1 d).1,λg=>M (((f o1).1 d).2.1 g),λg=>G (((f o1).1 d).2.2 g)⟩,λd=>G ((f o1).2 d)⟩,λo1=>G (i o1)⟩
  ·obtain⟨f,i⟩:=W k1 (λh=>k2 h.1) (λh=>by grind);exact⟨λo1=>⟨λd=>⟨((f o1).1 d).1,λg=>M (((f o1).1 d).2.1 g),λg=>G (((f o1).1 d).2.2 g)⟩,λd=>G ((f o1).2 d)⟩,λo1=>G (i o1)⟩
  ·obtain⟨f,i⟩:=W k1 (λh=>k2 h.1) (λh=>k4 h.1);exact⟨λo1=>⟨λd=>⟨((f o1).1 d).1,λg=>M (((f o1).1 d).2.1 g),λg=>G (((f o1).1 d).2.2 g)⟩,λd=>G ((f o1).2 d)⟩,λo1=>G (i o1)⟩
def Qmo:Ok V5:=okZ [Pt,Vy] f97 (λ_=>dk ()) ⟨Quo .g,QlZ⟩ QuS
def kI (l:List ah):List ah:=bQ [] (eG [] l)
def km:Nat->List ah->List ah
 | 0,l=>l
 | n+1,l=>if (kI l).length=l.length then l else km n (kI l)
def Di (t:ah):ah:=iJ 4 (km (aI 4 t.af).length (aI 4 t.af))
def atC:bp D:=cq 96 ah (λa _=>wa a) (λy=>y.af.length<=1000000/\ed (aI 4 y.af)) (λy=>[.agg (D.bm 15 y)]) λy=>.agg (D.bm 15 (lk (Di y)))
def atI (y:ah) (x:List ah):Prop:=ed x/\∃n,x.length<=n/\km n x=km (aI 4 y.af).length (aI 4 y.af)
def atO (y:atC.Y):dj D:=⟨[],[],[(14,⟨List ah,[],λx=>[(2,.ptr 0 0),(3,.list 15 x)],[],λ_=>[(0,.cells (D.bm 15 bI) 152 false)],1,atI y,λx=>x.length⟩)],[],1,[]⟩
def Qg9 (y:ah):Prop:=let a:=lk (Di y);let d:=λp:Prop=>RAG (RAH (RAF p));let e:=λp:Prop=>RAF (RAK p);Iv (y.af.length<=1000000/\(aI 4 y.af).length<=1000000)/\RAP (4:Int) y.af ((∃z:List ah,aI 4 y.af=z/\d (false=false/\e ((Iv (atI y z)))))/\(∀x:List ah,let c:=eG [] x;let b:=lk (iJ 4 x);let f:=aE (ab (bQ [] c)) (ab x);(Iv (atI y x))->Iv (ed x)/\aa [x] (Iv (c.length<=1000000/\uN c)/\aa [c] (aj f (Iv (x.length<=1000000)/\aa ([4]:List Int) (aa [x] (b.op=a.op/\b.r=a.r/\b.mn=a.mn/\b.mx=a.mx/\b.lz=a.lz/\b.cap=a.cap/\b.nk=a.nk/\b.af=a.af/\True))) (∃z:List ah,bQ [] c=z/\d (false=false/\e ((Iv (atI y z/\z.length<x.length)))))))))
def NL (n:Nat) (l:List Nd):Prop:=l.length<=n/\∀x∈l,jl x
def NL.app {b:Nat} {l m:List Nd} (h:NL a l) (c:NL b m):NL (a+b) (l++m):=
 ⟨by rw[Zab];have:=h.1;have:=c.1;omega,λx d=>(List.mem_append.mp d).elim (h.2 x) (c.2 x)⟩
theorem fe (t:ah) (l:List ah):aC (t::l)=aH t++aC l:=by rfl
def JS (r:List Rg):NL 1 (aH (qk (r))):=by
 rw[b6];refine⟨by simp[qk,ah.af,aC],λx a=>?_⟩;have a:x=⟨2,aY r,0,0,false,0,0⟩:=by simpa [qk,ah.af,aC,ah.op,ah.r,ah.mn,ah.mx,ah.lz,ah.cap] using a
 rw[a];exact lL r
theorem V8 (ht:NL 1 (aH k)):∀(l:List ah) (i n:Nat),NL n (aC l)->NL n (aC (l.set i k))
 | [],_,_,h=>h
 | a::l,0,n,h=>by
  rw[Zdb,fe];rw[fe] at h;have h1:=h.1;rw[Zab] at h1;have d:1<=(aH a).length:=by rw[b6];simp
  have:=ht.1;exact⟨by grind,λx b=>(List.mem_append.mp b).elim (ht.2 x) λb=>h.2 x (ZaC _ b)⟩
 | a::l,i+1,n,h=>by
  rw[Zdd,fe];rw[fe] at h;have h1:=h.1;rw[Zab] at h1;have:=V8 ht l i (aC l).length ⟨Zah _,λx b=>h.2 x (ZaC _ b)⟩;have c:=this.1;exact⟨by grind,λx b=>(List.mem_append.mp b).elim (λb=>h.2 x (Zay _ b)) (this.2 x)⟩
theorem yR (o:List ah) (k:ah):aC (o++[k])=aC o++aH k:=by grind [cU,aC]
def V9 {b:Nat} (h:NL a (aC l)) (hk:NL b (aH k)):NL (a+b) (aC (dT l k)):=by
 unfold dT;split
 ·have:=V8 (JS ((pe l).r++k.r)) l (l.length-1) a h;exact⟨by have:=this.1;omega,this.2⟩
 ·rw[yR];exact h.app hk
def oO (h:NL a (aC (k::l))):NL (aH k).length (aH k)/\NL (aC l).length (aC l)/\(aH k).length+(aC l).length<=a:=by
 rw[fe] at h;have h1:=h.1;rw[Zab] at h1;exact⟨⟨Zah _,λx n=>h.2 x (Zay _ n)⟩,⟨Zah _,λx n=>h.2 x (ZaC _ n)⟩,h1⟩
theorem uO:∀(l o:List ah) (a b:Nat),NL a (aC o)->NL b (aC l)->NL (a+b) (aC (bQ o l))/\(bQ o l).length<=o.length+l.length
 | [],o,a,b,h,_=>⟨⟨by have:=h.1;unfold bQ;omega,h.2⟩,Zah _⟩
 | k::l,o,a,b,h,h2=>by
  obtain⟨p1,p2,p3⟩:=oO h2;obtain⟨c,d⟩:=uO l _ _ _ (V9 h p1) p2;have:=jT o k;have:=c.1;rw[bQ];exact⟨⟨ω,c.2⟩,by grind⟩
theorem re:∀(l o:List ah) (a b:Nat),NL a (aC o)->NL b (aC l)->NL (a+b) (aC (eG o l))/\(eG o l).length<=o.length+l.length
 | [],o,a,b,h,_=>⟨⟨by have:=h.1;unfold eG;omega,h.2⟩,Zah _⟩
 | k::l,o,a,b,h,h2=>by
  obtain⟨p1,p2,p3⟩:=oO h2;rw[eG];split
  ·obtain⟨c,d⟩:=re l o _ _ h p2;have:=c.1;exact⟨⟨ω,c.2⟩,by grind⟩
  ·obtain⟨c,d⟩:=re l (o++[k]) _ _ (by rw[yR];exact h.app p1) p2;have:=c.1;simp only[Zab,Zae,Zak] at d;exact⟨⟨ω,c.2⟩,by grind⟩
theorem Dj:NL 0 (aC []):=⟨by simp[aC],λx a=>by grind [aC]⟩
theorem QaY (h:ed l):ed (eG [] l)/\(eG [] l).length<=l.length:=by
 obtain⟨a,b⟩:=re l [] 0 1000000 Dj h;exact⟨⟨by have:=a.1;omega,a.2⟩,by grind⟩
theorem MO (h:ed l):ed (bQ [] l)/\(bQ [] l).length<=l.length:=by
 obtain⟨a,b⟩:=uO l [] 0 1000000 Dj h;exact⟨⟨by have:=a.1;omega,a.2⟩,by grind⟩
theorem ed.rt (h:ed l):uN l:=λt ht=>by
 obtain⟨i,hi,rfl⟩:=Za3 ht;have:=h.get hi;rw[fh hi] at this;have a:=this.2 ⟨l[i].op,l[i].r,l[i].mn,l[i].mx,l[i].lz,l[i].cap,l[i].af.length⟩ (by grind [b6]);exact a
theorem atH (y:ah) (c:atC.pre y):Qg9 y:=by
 obtain⟨h1,a⟩:y.af.length<=1000000/\ed (aI 4 y.af):=c;unfold Qg9;simp only[bj,ib,iA,aw,az];refine⟨⟨h1,a.len⟩,⟨_,rfl,a,_,Zah _,rfl⟩,λx b=>?_⟩;obtain⟨i1,n,i2,i3⟩:=b;obtain⟨o1,g⟩:=QaY i1;obtain⟨d,f⟩:=MO o1;refine⟨i1,⟨o1.len,o1.rt⟩,λe=>⟨i1.len,?_⟩,λe=>⟨_,rfl,?_,ω⟩⟩
 ·have e:(kI x).length=x.length:=by grind [kI]
  have:Di y=iJ 4 x:=by
   unfold Di;rw[<-i3];cases n with
   | zero=>rfl
   | succ n=>rw[km,Zac e]
  grind
 ·have e:¬(kI x).length=x.length:=by grind [kI]
  cases n with
  | zero=>exact absurd (show(kI x).length=x.length by omega) e
  | succ n=>
   rw[km,Zaa e] at i3;exact⟨d,n,ω,i3⟩
def QuT (a:Ok cW):Ok atC:=okZ [Pq,PC,PD,Pp] f96 atO ⟨Ql0,Qmm,Qmn a,Qez⟩ atH
def yS (t:ah):ah:=if t.op=3 then F8 t else if t.op=4 then Di t else if t.op=5 then dn t else t
mutual
def kJ:ah->ah
 | .mk op r mn mx lz cap nk ks=>yS (.mk op r mn mx lz cap nk (dO ks))
def dO:List ah->List ah
 | []=>[]
 | t::l=>kJ t::dO l
end
mutual
def tH:ah->Prop
 | .mk op _ mn _ _ _ _ ks=>(op=5->1<=ks.length/\0<=mn)/\ql ks
def ql:List ah->Prop
 | []=>True
 | t::l=>tH t/\ql l
end
variable {l:List ah} {k:ah}
def PE (t:ah):ah:=lk (kJ t)
def Ge (t:ah) (n:Nat):List ah:=lk ((dO t.af).take n)
def JT:bp D:=cq 59 ah (λa _=>wa a) (λy=>dX y/\tH y) (λy=>[.agg (D.bm 15 y)]) λy=>.agg (D.bm 15 (PE y))
def QuU (y:JT.Y):dj D:=⟨[],[],[(58,⟨Nat,[11,12],λx=>[(1,.ptr 0 0),(2,.ptr 1 0),(3,.grow 15 (Ge y x) 2),(13,Qyy x)],[],λ_=>[(0,.cells (D.bm 15 y) 152 false),(1,.cells (D.bm 15 bI) 152 false),(2,.tok 15 152)],3,λx=>x<=y.af.length,λx=>y.af.length-x⟩)],[],1,[]⟩
def QuV (y:JT.Y):Prop:=vc [JT.under dI (dI y),ctC,atC,V5] f59 JT QuU y
def V' (y:ah):Prop:=let a:=PE y;let q1:=y.af;let j:=ab q1;let n:=λp:Prop=>RAG (RAH (RAF p));let o:=λp:Prop=>RAF (RAK (RA0 y (RAO q1 p)));Tt 1 (aM 0 j/\ba j 96/\(∃z:Nat,RAP q1 j ([]=Ge y z/\0=(z:Int)/\n (false=false/\o ((Iv (z<=q1.length))))))/\(∀x:Nat,let g:=Ge y x;let l:=q1.length;let e:=gt (ah.mk 0 [] 0 0 false 0 0 []) q1 (x:Int).toNat;let m:=ah.mk y.op y.r y.mn y.mx y.lz y.cap y.nk g;let h:=lk (F8 m);let b:=lk (Di m);let c:=lk (dn m);let f:=ah.mk e.op e.r e.mn e.mx e.lz e.cap e.nk e.af;let d:=PE f;let k:=bn g [ah.mk d.op d.r d.mn d.mx d.lz d.cap d.nk d.af];let i:=λp:Prop=>RA0 y (RAO g p);(Iv (x<=l))->aj (aD (x:Int) j) (aM 0 (x:Int)/\aD (x:Int) j/\Iv ((dX f/\tH f)/\dI f<dI y)/\RA0 e (RAO e.af (ba (ab k) 96/\∃z:Nat,aa [q1] (aa [j] (k=Ge y z/\ay .i64 (x:Int) 1=(z:Int)/\n (false=false/\o ((Iv (z<=l/\(l-z)<(l-x)))))))))) (aj (aE y.op 3) (Iv (g.length<=1000000/\(aI 3 g).length<=1000000)/\i (h.op=a.op/\h.r=a.r/\h.mn=a.mn/\h.mx=a.mx/\h.lz=a.lz/\h.cap=a.cap/\h.nk=a.nk/\h.af=a.af/\True)) (aj (aE y.op 4) (Iv (g.length<=1000000/\ed (aI 4 g))/\i (b.op=a.op/\b.r=a.r/\b.mn=a.mn/\b.mx=a.mx/\b.lz=a.lz/\b.cap=a.cap/\b.nk=a.nk/\b.af=a.af/\True)) (aj (aE y.op 5) (Iv (QaV m)/\i (c.op=a.op/\c.r=a.r/\c.mn=a.mn/\c.mx=a.mx/\c.lz=a.lz/\c.cap=a.cap/\c.nk=a.nk/\c.af=a.af/\True)) (y.op=a.op/\y.r=a.r/\y.mn=a.mn/\y.mx=a.mx/\y.lz=a.lz/\y.cap=a.cap/\y.nk=a.nk/\g=a.af/\True))))))
def QaZ:∀y,V' y=QuV y:=λy=>by kernel_rfl
theorem j6 (t:ah):tH t↔(t.op=5->1<=t.af.length/\0<=t.mn)/\ql t.af:=by cases t;rw[tH];exact ZbW
theorem kP (l:List ah):ql l↔∀t∈l,tH t:=by
 induction l with
 | nil=>simp[ql]
 | cons a l b=>rw[ql,b];simp
theorem rf (l:List ah):(dO l).length=l.length:=by
 induction l with
 | nil=>simp[dO]
 | cons a l b=>simp[dO,b]
theorem PF (l:List ah):dO l=l.map kJ:=by
 induction l with
 | nil=>simp[dO]
 | cons a l b=>simp[dO,b]
def Qa0 (t:ah):kJ t=yS (.mk t.op t.r t.mn t.mx t.lz t.cap t.nk (dO t.af)):=by cases t;rw[kJ];rfl
theorem Gf {op:Int} (h:op≠5) (hl:ql l):tH (iJ op l):=by
 match l,hl with
 | [],_=>rw[iJ,tH];exact⟨λh=>ω,by assumption⟩
 | [k],hl=>exact(kP _).mp hl k (by simp)
 | a::b::l,hl=>
  grind [iJ,tH]
theorem BG {op:Int} (hl:ql l):ql (aI op l):=by
 grind [kP,aI,j6]
def Qa1 (hl:ql l):ql (iC l):=by
 rw[kP] at*
 exact λt ht=>hl t (List.mem_filter.mp ht).1
theorem Dk:∀(l o:List ah),ql o->ql l->ql (eG o l)
 | [],o,h,_=>by assumption
 | k::l,o,h,h2=>by
  rw[eG];rw[ql] at h2;split
  ·exact Dk l o h h2.2
  ·refine Dk l _ ?_ h2.2;grind [kP]
theorem V_ (r:List Rg):tH (qk r):=by grind [qk,tH,ql]
theorem Wa (h:ql l) (hk:tH k):ql (dT l k):=by
 grind [kP,dT,V_]
theorem BH:∀(l o:List ah),ql o->ql l->ql (bQ o l)
 | [],o,h,_=>by assumption
 | k::l,o,h,h2=>by
  rw[bQ];rw[ql] at h2;exact BH l _ (Wa h h2.1) h2.2
theorem Gg:∀(n:Nat) (l:List ah),ql l->ql (km n l)
 | 0,l,h=>h
 | n+1,l,h=>by
  rw[km];split
  ·exact h
  ·exact Gg n _ (BH _ _ (by grind [ql]) (Dk _ _ (by grind [ql]) h))
def NL.to {a b:Nat} {l:List Nd} (h:NL a l) (c:a<=b):NL b l:=⟨Zav h.1 c,h.2⟩
theorem nT (op:Int):∀(l:List ah) (n:Nat),NL n (aC l)->NL n (aC (aI op l))
 | [],n,h=>h
 | k::l,n,h=>by
  obtain⟨p1,p2,p3⟩:=oO h;have e:aI op (k::l)=(if k.op=op then k.af else[k])++aI op l:=rfl;have r:=nT op l _ p2;rw[e,cU];split
  ·rw[b6] at p1 p3;simp only[Zae] at p3;have q:NL (aC k.af).length (aC k.af):=⟨Zah _,λx a=>p1.2 x (ZaU _ a)⟩;exact(q.app r).to ω
  ·rw[show aC [k]=aH k by grind [aC]];exact(p1.app r).to ω
theorem MP:∀(l:List ah) (n:Nat),NL n (aC l)->NL n (aC (iC l))
 | [],n,h=>h
 | k::l,n,h=>by
  obtain⟨p1,p2,p3⟩:=oO h;have r:=MP l _ p2;unfold iC at r ⊢;rw[List.filter_cons];split
  ·rw[fe];exact(p1.app r).to ω
  ·exact r.to ω
theorem MQ (op:Int):NL 1 (aH (.mk op [] 0 0 false 0 0 [])):=by
 rw[aH];refine⟨by simp[aC],λx a=>?_⟩;have a:x=⟨op,[],0,0,false,0,0⟩:=by grind [aC]
 rw[a];exact Zaj _
theorem Gh (op:Int) {n:Nat} (h:NL n (aC l)):NL (n+1) (aH (iJ op l)):=by
 match l,h with
 | [],_=>exact(MQ 1).to ω
 | [k],h=>
  rw[show aC [k]=aH k by grind [aC]] at h;exact h.to ω
 | a::b::l,h=>
  rw[show iJ op (a::b::l)=.mk op [] 0 0 false 0 0 (a::b::l) from rfl,aH];refine⟨by have:=h.1;simp only[Zae];omega,λx c=>?_⟩;rcases List.mem_cons.mp c with c | c
  ·rw[c];exact Zaj _
  ·exact h.2 x c
theorem Gi:∀(n:Nat) (l:List ah) (m:Nat),NL m (aC l)->NL m (aC (km n l))
 | 0,l,m,h=>h
 | n+1,l,m,h=>by
  rw[km];split
  ·exact h
  ·have h1:=(re l [] 0 m Dj h).1;have a:=(uO _ [] 0 _ Dj h1).1;exact Gi n _ m (a.to ω)
def QeC (l:List ah):Prop:=∀x∈aC l,jl x
theorem Qhb (h:0<l.length) (hl:QeC l) {a:Nd}:NL (a::aC l).length (aH (l.getD 0 bI)):=by
 cases l with
 | nil=>cases h
 | cons k l=>
  have e:(k::l).getD 0 bI=k:=rfl;rw[e,fe];refine⟨by grind,λx b=>hl x (by grind [fe])⟩
def Kept (t u:ah):Prop:=tH u/\NL (aH t).length (aH u)
def Qa2 (h:tH k) (b:NL (aH k).length (aH k)):Kept k (wb k):=by
 unfold wb;refine⟨?_,?_⟩
 ·rw[j6] at*;exact h
 ·rw[b6] at b;rw[b6 k];rw[aH];refine⟨Zah _,λx a=>?_⟩;rcases List.mem_cons.mp a with a | a
  ·rw[a];exact b.2 ⟨k.op,k.r,k.mn,k.mx,k.lz,k.cap,k.af.length⟩ Za8
  ·exact b.2 x (ZaU _ a)
theorem Wb (hk:1<=k.af.length) (h:tH k) (a:NL (aH k).length (aH k)):Kept k (bL k):=by
 have c:=(kP _).mp ((j6 k).mp h).2;unfold bL;refine⟨by grind,?_⟩;rw[b6] at a ⊢;have hl:QeC k.af:=λx b=>a.2 x (ZaU _ b)
 exact Qhb hk hl
theorem tI (t:ah):1<=(aH t).length:=by rw[b6];simp
theorem Wc (hk:1<=k.af.length) (h0:0<=k.mn) (h:tH k) (b:NL (aH k).length (aH k)):Kept k (dn k):=by
 have K:=Wb hk h b;unfold dn;split
 ·exact K
 ·split
  ·exact K
  ·split
   ·exact⟨by grind [tH,ql],(MQ 1).to (tI k)⟩
   ·split
    ·obtain⟨k1,k2⟩:=K;generalize bL k=t at*
     rw[j6] at k1;refine⟨?_,?_⟩
     ·grind [Ga,tH,Int.mul_nonneg]
     ·rw[b6 t] at k2;unfold Ga;rw[aH];refine⟨by have:=k2.1;simpa using this,λx a=>?_⟩;rcases List.mem_cons.mp a with a | a
      ·rw[a];exact k2.2 ⟨t.op,t.r,t.mn,t.mx,t.lz,t.cap,t.af.length⟩ Za8
      ·exact k2.2 x (ZaU _ a)
    ·exact Qa2 h b
theorem PG {t:ah} (h:tH t) (a:NL (aH t).length (aH t)):Kept t (yS t):=by
 have hi:=(j6 t).mp h;have hl:NL (aC t.af).length (aC t.af):=by
  rw[b6] at a;exact⟨Zah _,λx b=>a.2 x (ZaU _ b)⟩
 have e:(aH t).length=(aC t.af).length+1:=by rw[b6];simp
 unfold yS;split
 ·refine⟨Gf ω (Qa1 (BG hi.2)),?_⟩;grind [F8,Gh,MP,nT]
 ·split
  ·refine⟨Gf ω (Gg _ _ (BG hi.2)),?_⟩;grind [Di,Gh,Gi,nT]
  ·split
   ·grind [Wc]
   ·exact⟨h,a⟩
mutual
theorem ri:∀t:ah,tH t->NL (aH t).length (aH t)->Kept t (kJ t)
 | .mk op r mn mx lz cap nk ks,h,hn=>by
  rw[tH] at h
  rw[aH] at hn
  obtain⟨r1,r2⟩:=oP ks h.2 ⟨Zah _,λx hx=>hn.2 x (ZaU _ hx)⟩
  have hN:NL (aH (.mk op r mn mx lz cap nk ks)).length (aH (.mk op r mn mx lz cap nk (dO ks))):=by
   rw[aH,aH]
   refine⟨by have:=r2.1;simp only[Zae];omega,λx hx=>?_⟩
   rcases List.mem_cons.mp hx with hx | hx
   ·rw[hx];exact hn.2 ⟨op,r,mn,mx,lz,cap,ks.length⟩ Za8
   ·exact r2.2 x hx
  have B:=PG (t:=.mk op r mn mx lz cap nk (dO ks)) (by rw[tH,rf];exact⟨h.1,r1⟩) ⟨Zah _,hN.2⟩
  rw[kJ]
  exact⟨B.1,B.2.to hN.1⟩
theorem oP:∀l:List ah,ql l->NL (aC l).length (aC l)->ql (dO l)/\NL (aC l).length (aC (dO l))
 | [],_,h=>⟨by rw[dO,ql];trivial,by rw[dO];exact h⟩
 | t::l,h,hn=>by
  rw[ql] at h
  obtain⟨p1,p2,p3⟩:=oO hn
  have a:=ri t h.1 p1
  have b:=oP l h.2 p2
  rw[dO,ql,fe (kJ t)]
  exact⟨⟨a.1,b.1⟩,(a.2.app b.2).to p3⟩
end
theorem QuW (y:ah) (u:JT.pre y):V' y:=by
 obtain⟨h1,n⟩:dX y/\tH y:=u;have hi:=(j6 y).mp n;have hk:=h1.af;have hl:=hk.len;have t:=rf y.af;obtain⟨z,h⟩:=oP y.af hi.2 ⟨Zah _,hk.2⟩;unfold V';simp only[bN,bj,aw,a_,bq,dL,bX,Zad,PE,Ge,az];refine⟨ω,ω,⟨0,rfl,rfl,Zaj _⟩,λx k=>⟨λe=>?_,λe=>?_⟩⟩
 ·have c:x<y.af.length:=ω;have q:y.af.getD x (ah.mk 0 [] 0 0 false 0 0 [])=y.af.getD x bI:=rfl;rw[q];have ht:(dO y.af).take (x+1)=(dO y.af).take x++[kJ (y.af.getD x bI)]:=by
   rw[cy bI ω,fh (show x<(dO y.af).length by omega),fh c];grind [PF]
  have f:tH (y.af.getD x bI):=by grind [kP]
  exact⟨ω,e,⟨⟨hk.get c,f⟩,jo c⟩,by grind,x+1,ht.symm,bR ω,ω,ω⟩
 ·have k:(dO y.af).take x=dO y.af:=ZaA ω;rw[k,Qa0 y];generalize s:dO y.af=a at*
  have w:∀op,(aI op a).length<=1000000/\ed (aI op a):=λop=>by
   have:=nT op a _ h;have j:ed (aI op a):=⟨Zav this.1 hk.1,this.2⟩;exact⟨j.len,j⟩
  refine⟨λo=>?_,λg=>⟨λo=>?_,λl=>⟨λo=>?_,λv=>?_⟩⟩⟩
  ·rw[show yS (.mk y.op y.r y.mn y.mx y.lz y.cap y.nk a)=F8 (.mk y.op y.r y.mn y.mx y.lz y.cap y.nk a) from Zac o];grind
  ·rw[show yS (.mk y.op y.r y.mn y.mx y.lz y.cap y.nk a)=Di (.mk y.op y.r y.mn y.mx y.lz y.cap y.nk a) from(Zaa g).trans (Zac o)];grind
  ·rw[show yS (.mk y.op y.r y.mn y.mx y.lz y.cap y.nk a)=dn (.mk y.op y.r y.mn y.mx y.lz y.cap y.nk a) from((Zaa g).trans (Zaa l)).trans (Zac o)];obtain⟨b1,m⟩:=hi.1 o;have d:0<a.length:=ω;have p:ed a:=⟨Zav h.1 hk.1,h.2⟩;have b:tH (a.getD 0 bI):=by grind [kP]
   exact⟨⟨show 1<=a.length by omega,p.get d,m,λi=>⟨(((j6 _).mp b).1 i).2,(((j6 _).mp b).1 i).1⟩⟩,rfl,rfl,rfl,rfl,rfl,rfl,rfl,rfl⟩
  ·rw[show yS (.mk y.op y.r y.mn y.mx y.lz y.cap y.nk a)=(.mk y.op y.r y.mn y.mx y.lz y.cap y.nk a) from((Zaa g).trans (Zaa l)).trans (Zaa v)];exact⟨rfl,rfl,rfl,rfl,rfl,rfl,rfl,rfl⟩
def Qmp (a:Ok cW):Ok JT:=QY dI QaZ ⟨QuJ,QuT a,Qmo⟩ QuW
def cO (y:List Nd):List Nd:=if dG y=true then aH (kJ (cw y).1) else[]
def pf (y:List Nd):Prop:=∀x∈y,jl x
def Gj:bp D:=cq 25 (List Nd) Qaa pf (λy=>[.list 7 y]) λy=>.list 7 (lk (cO y))
def Wd (y:List Nd):Prop:=let a:=(cw y).1;let q1:=ah.mk a.op a.r a.mn a.mx a.lz a.cap a.nk a.af;let b:=PE q1;let c:=ah.mk b.op b.r b.mn b.mx b.lz b.cap b.nk b.af;Iv (cR y)/\RAO y (aj (!(dG y)) ([]=lk (cO y)/\True) (Iv (y.length<=1000000/\Option.isSome (gh y.length y))/\aa [y] (Iv (dX q1/\tH q1)/\aa [a.op] (aa [a.r] (aa [a.mn,a.mx] (aa [a.lz] (aa [a.cap,a.nk] (aa [a.af] (Iv (dX c)/\aa [b.op] (aa [b.r] (aa [b.mn,b.mx] (aa [b.lz] (aa [b.cap,b.nk] (aa [b.af] (dD c=lk (cO y)/\True)))))))))))))))
def PH (x:Nd):Prop:=∃g:Nat,(bP x g).2
mutual
def kZ:ah->Prop
 | .mk op r mn mx lz cap nk ks=>PH ⟨op,r,mn,mx,lz,cap,ks.length⟩/\nk=ks.length/\nU ks
def nU:List ah->Prop
 | []=>True
 | t::l=>kZ t/\nU l
end
def jq (t:ah):kZ t↔PH ⟨t.op,t.r,t.mn,t.mx,t.lz,t.cap,t.af.length⟩/\t.nk=t.af.length/\nU t.af:=by cases t;rw[kZ];exact ZbW
theorem rj (l:List ah):nU l↔∀t∈l,kZ t:=by
 induction l with
 | nil=>simp[nU]
 | cons a l b=>rw[nU,b];simp
mutual
theorem uP:∀(t:ah) (m:Nat) (rest:List Nd),kZ t->(aH t++rest).length<=m->gh m (aH t++rest)=some (t,rest)
 | .mk op r mn mx lz cap nk ks,m,rest,h,hm=>by
  rw[kZ] at h
  rw[aH] at hm ⊢
  simp only[Za1,Zae] at hm ⊢
  obtain⟨k,rfl⟩:∃k,m=k+1:=⟨m-1,ω⟩
  rw[gh]
  simp only[Zad]
  rw[yT ks k rest h.2.2 ω,h.2.1]
theorem yT:∀(l:List ah) (m:Nat) (rest:List Nd),nU l->(aC l++rest).length<=m->kk (gh m) l.length (aC l++rest)=some (l,rest)
 | [],m,rest,_,_=>by simp[kk,aC]
 | t::l,m,rest,h,hm=>by
  rw[nU] at h
  rw[aC,ZaD] at hm ⊢
  rw[Zae,kk,uP t m _ h.1 hm]
  simp only
  rw[yT l m rest h.2 (by simp only[Zab] at hm ⊢;omega)]
end
variable {L:List Nd}
theorem Gk {x:Nd} {g:Int} (h:(bP x g).2):(bP x g).1=x.af/\0<=x.af:=by
 revert h
 grind [bP]
def Gr (L:List Nd) (f:Nat->Nat->Bool×Nat×Nat):Prop:=∀a g b c,f a g=(true,b,c)->∃t,kZ t/\L.drop a=aH t++L.drop b
theorem BI {f:Nat->Nat->Bool×Nat×Nat} (e:Gr L f):∀(k a g b d:Nat),eF f k a g=(true,b,d)->∃c,nU c/\c.length=k/\L.drop a=aC c++L.drop b
 | 0,a,g,b,d,h=>by cases h;exact⟨[],by grind [nU],rfl,by rfl⟩
 | k+1,a,g,b,d,h=>by
  rw[eF] at h;split at h
  ·grind
  ·rename_i h1
   obtain⟨t,i,j⟩:=e a g (f a g).2.1 (f a g).2.2 (by
    have:(f a g).1:=by grind
    rw[<-this])
   obtain⟨c,l,m,n⟩:=BI e k _ _ _ _ h;exact⟨t::c,by grind [nU],by grind,by grind [aC]⟩
theorem Gl (L:List Nd):∀n,Gr L (fg L n)
 | 0=>λa g b j h=>by cases h
 | n+1=>λa g b j h=>by
  rw[fg] at h;split at h
  ·cases h
  ·rename_i hl
   have e:L.drop a=L.getD a (nd 0)::L.drop (a+1):=by simp_all
   generalize L.getD a (nd 0)=x at h e;split at h
   ·cases h
   ·rename_i hs
    have c:(bP x g).2:=by grind
    obtain⟨i,e2⟩:=Gk c;obtain⟨f,h1,k,l⟩:=BI (Gl L n) _ _ _ _ _ h;rw[i] at k;have d:(f.length:Int)=x.af:=ω;refine⟨.mk x.op x.r x.mn x.mx x.lz x.cap x.af f,by rw[kZ,d];exact⟨⟨g,c⟩,rfl,h1⟩,?_⟩;rw[e,l,aH,d];rfl
theorem jU (h:dG L):∃t,kZ t/\L=aH t/\L.length<=480:=by
 unfold dG at h;simp only[ZaW,ZaP,Zb7] at h;obtain⟨⟨⟨h1,a⟩,b⟩,c⟩:=h;obtain⟨t,d,e⟩:=Gl L 241 0 0 (fg L 241 0 0).2.1 (fg L 241 0 0).2.2 (by grind);grind
theorem yU {t:ah} (h:kZ t):gh (aH t).length (aH t)=some (t,[]):=by
 have:=uP t (aH t).length [] h (by simp);grind
theorem qm {t:ah} (h:kZ t):cw (aH t)=(t,[]):=by
 grind [cw,az,yU]
theorem PH.rep {x:Nd} (h:PH x) (a:x.op=5):x.af=1/\0<=x.mn/\x.mn<=30/\(x.mx= -1\/(x.mn<=x.mx/\x.mx<=30)):=by
 obtain⟨g,h⟩:=h;grind [bP]
mutual
theorem Gm:∀t:ah,kZ t->tH t
 | .mk op r mn mx lz cap nk ks,h=>by
  rw[kZ] at h
  rw[tH]
  refine⟨λh5=>?_,We ks h.2.2⟩
  obtain⟨h1,h2,_⟩:=h.1.rep h5
  have h1:(ks.length:Int)=1:=h1
  exact⟨ω,h2⟩
theorem We:∀l:List ah,nU l->ql l
 | [],_=>by rw[ql];trivial
 | t::l,h=>by rw[nU] at h;rw[ql];exact⟨Gm t h.1,We l h.2⟩
end
theorem QuY (y:List Nd) (j:Gj.pre y):Wd y:=by
 have a:cR y:=j;unfold Wd;simp only[bj,bX,PE,dD,az,Zan,Zao];refine⟨a,λh=>?_,λh=>?_⟩
 ·grind [cO]
 ·obtain⟨t,h1,f,g⟩:=jU h;have d:=Gm t h1;have e:cw y=(t,[]):=by grind [qm]
  have hs:cO y=aH (kJ t):=by
   grind [cO]
  have b:NL (aH t).length (aH t):=by rw[<-f];exact⟨Zah _,a⟩
  have i:(aH t).length<=480:=by grind
  obtain⟨_,k2⟩:=ri t d b;rw[e,hs];have k1:(aH (kJ t)).length<=(aH t).length:=k2.1;have c:(aH t).length<=1000000:=Zav i (by decide);refine⟨⟨Zav g (by decide),?_⟩,⟨⟨c,b.2⟩,d⟩,⟨Zav k1 c,k2.2⟩,rfl⟩;grind [yU]
def QeD (a:Ok cW):Ok Gj:=okZ [Js,JP,JT,JQ] f25 (λ_=>dk ()) ⟨Qem a,Ql1,Qmp a,Ql2⟩ QuY
def qo (op mn mx:Int) (k s:Nat):Nat:=
 if op=2\/op=7\/op=8 then 1 else if op=4 then s+2*(k-1) else if op=6 then s+2
 else if op=5 then(if mx= -1 then mn.toNat*s+s+2 else mn.toNat*s+(mx.toNat-mn.toNat)*(s+1)) else s
mutual
def bw:ah->Nat
 | .mk op _ mn mx _ _ _ ks=>qo op mn mx ks.length (aR ks)
def aR:List ah->Nat
 | []=>0
 | t::l=>bw t+aR l
end
def fq (n:Nat):Int:=min (n:Int) 401
mutual
def kn:ah->List Int
 | .mk op _ mn mx _ _ _ ks=>fq (qo op mn mx ks.length (aR ks))::gA ks
def gA:List ah->List Int
 | []=>[]
 | t::l=>kn t++gA l
end
mutual
def rJ:ah->Nat->List Int
 | .mk _ _ _ _ _ _ _ ks,a=>((a+1+(aC ks).length:Nat):Int)::lM ks (a+1)
def lM:List ah->Nat->List Int
 | [],_=>[]
 | t::l,a=>rJ t a++lM l (a+(aH t).length)
end
def k_ (o:List Int) (a:Nat) (s:List Int):List Int:=o.take a++s++o.drop (a+s.length)
structure od where
 l:List Nd
 o:List Int
 a:Int
def od.t (y:od):ah:=lk (cw (y.l.drop y.a.toNat)).1
def od.n (y:od):Nat:=lk (aH y.t).length
def Qmq (args:List (AV D.E)) (s:St D.E):C od:=match args with
 | [l,o,a]=>aB (aW D s 7 l) λl=>aB (aW D s 5 o) λo=>aP (cQ a) λ_ a=>.ret ⟨l,o,a⟩
 | _=>.fail
def PI (y:od):Prop:=0<=y.a/\y.o.length=y.l.length/\y.l.length<=480/\∃t r,kZ t/\y.l.drop y.a.toNat=aH t++r
abbrev BJ (l:List Int):List (Nat×AO D.E):=[(0,.arr 5 l 3 false)]
def HE (y:od):List Int:=lk (k_ y.o y.a.toNat (kn y.t))
def szC:bp D:=⟨54,od,Qmq,PI,λy=>[.list 7 y.l,.own 0 1 (ab y.o),Qyy y.a],λy=>BJ y.o,λy=>Qyy (y.a+y.n),λy=>BJ (HE y),1,1⟩
def szK (y:od) (k:Nat):List Int:=lk (k_ y.o (y.a.toNat+1) (gA (y.t.af.take k)))
def QZ (y:od) (k:Nat):Int:=lk (y.a+1+(aC (y.t.af.take k)).length)
def szM (y:od) (k:Nat):Int:=lk (fq (aR (y.t.af.take k)))
def szO (y:szC.Y):dj D:=⟨[],[],[(250,⟨Nat,[0,2,18],λx=>[(1,.own 0 1 (ab (szK y x))),(7,.ptr 1 0),(8,Qyy (QZ y x)),(9,Qyy (szM y x)),(19,Qyy x)],[1],λx=>BJ (szK y x),2,λx=>x<=y.t.af.length,λx=>y.t.af.length-x⟩)],[],1,[]⟩
def szV (y:szC.Y):Prop:=vc [szC.under (λy=>dI y.t) (dI y.t)] f54 szC szO y
def JU (y:od):List Int:=lk (k_ y.o y.a.toNat (rJ y.t y.a.toNat))
def enC:bp D:=⟨55,od,Qmq,PI,λy=>[.list 7 y.l,.own 0 1 (ab y.o),Qyy y.a],λy=>BJ y.o,λy=>Qyy (y.a+y.n),λy=>BJ (JU y),1,1⟩
def enK (y:od) (k:Nat):List Int:=lk (k_ y.o (y.a.toNat+1) (lM (y.t.af.take k) (y.a.toNat+1)))
def enO (y:enC.Y):dj D:=⟨[],[],[(58,⟨Nat,[0,2,14],λx=>[(1,.own 0 1 (ab (enK y x))),(7,Qyy (QZ y x)),(15,Qyy x)],[],λx=>BJ (enK y x),1,λx=>x<=y.t.af.length,λx=>y.t.af.length-x⟩)],[],1,[]⟩
def enV (y:enC.Y):Prop:=vc [enC.under (λy=>dI y.t) (dI y.t)] f55 enC enO y
def Qhe (y:od):Prop:=let j:=HE y;let q1:=y.a.toNat;let g:=lk (cw (List.drop q1 y.l)).1;let b:=gt (Nd.mk 0 [] 0 0 false 0 0) y.l q1;let q:=g.af.length;let u:=jx .i64 2 (dE .i64 b.af 1);let v:=dE .i64 b.mx b.mn;let t:=λp:Prop=>RA5 b p;let A:=y.a+((lk (aH g).length:Nat):Int);aM 0 y.a/\aD y.a (ab y.l)/\(∃z:Nat,RAQ y.l y.a b.af (ab y.o=ab (szK y z)/\ay .i64 y.a 1=QZ y z/\0=szM y z/\0=(z:Int)/\t (y.o=szK y z/\(Iv (z<=q)))))/\(∀x:Nat,let f:=szK y x;let e:=QZ y x;let d:=szM y x;let c:=ab f;let k:=HE (od.mk y.l f e);let m:=lk (cw (List.drop e.toNat y.l)).1;let n:=jx .i64 b.mn d;let s:=aD (x:Int) b.af;let h:Prop:=(aM 0 y.a/\aD y.a c/\e=A/\dh f q1 (gu 1 401)=j/\True);let i:Prop:=(aj (aE b.op 4) (aM 0 y.a/\aD y.a c/\e=A/\dh f q1 (gu (ay .i64 d u) 401)=j/\True) (aj (aE b.op 6) (aM 0 y.a/\aD y.a c/\e=A/\dh f q1 (gu (ay .i64 d 2) 401)=j/\True) (aj (aE b.op 5) (aj (aE b.mx (-1)) (aM 0 y.a/\aD y.a c/\e=A/\dh f q1 (gu (ay .i64 (ay .i64 n d) 2) 401)=j/\True) (aM 0 y.a/\aD y.a c/\e=A/\dh f q1 (gu (ay .i64 n (jx .i64 v (ay .i64 d 1))) 401)=j/\True)) (aM 0 y.a/\aD y.a c/\e=A/\dh f q1 (gu d 401)=j/\True))));(Iv (x<=q))->aj s (Iv (PI (od.mk y.l f e)/\dI m<dI g)/\RAR y.l c e f (aM 0 e/\aD e c/\∃z:Nat,aa [y.l] (aa [y.a,b.af] (c=ab (szK y z)/\(e+((lk (aH m).length:Nat):Int))=QZ y z/\gu (ay .i64 d (gt 0 k e.toNat)) 401=szM y z/\ay .i64 (x:Int) 1=(z:Int)/\t (k=szK y z/\(Iv (z<=q/\(q-z)<(q-x)))))))) (aj (aE b.op 2) (aj (aE b.op 2) (h) (i)) (aj (aE b.op 7) (aj (aE b.op 7) (h) (i)) (aj (aE b.op 8) (h) (i)))))
def Qhf:∀y,Qhe y=szV y:=λy=>by kernel_rfl
def Qhg (y:od):Prop:=let d:=lk (cw (List.drop y.a.toNat y.l)).1;let q1:=d.af.length;let u:=gt (Nd.mk 0 [] 0 0 false 0 0) y.l y.a.toNat;let f:=λp:Prop=>RAQ y.l y.a u.af p;aM 0 y.a/\aD y.a (ab y.l)/\(∃z:Nat,f (ab y.o=ab (enK y z)/\ay .i64 y.a 1=QZ y z/\0=(z:Int)/\y.o=enK y z/\(Iv (z<=q1))))/\(∀x:Nat,let b:=QZ y x;let c:=enK y x;let e:=lk (cw (List.drop b.toNat y.l)).1;let g:=aD (x:Int) u.af;(Iv (x<=q1))->aj g (Iv (PI (od.mk y.l c b)/\dI e<dI d)/\RAR y.l (ab c) b c (∃z:Nat,f (ab c=ab (enK y z)/\(b+((lk (aH e).length:Nat):Int))=QZ y z/\ay .i64 (x:Int) 1=(z:Int)/\JU (od.mk y.l c b)=enK y z/\(Iv (z<=q1/\(q1-z)<(q1-x)))))) (aM 0 y.a/\aD y.a (ab c)/\b=(y.a+((lk (aH d).length:Nat):Int))/\dh c y.a.toNat b=JU y/\True))
def Qhh:∀y,Qhg y=enV y:=λy=>by kernel_rfl
end
end sx
end Go.Proofs.YtfkmlhnhkdbjeaaGreat
