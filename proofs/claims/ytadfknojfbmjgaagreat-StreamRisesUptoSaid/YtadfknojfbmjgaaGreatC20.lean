/- StreamRises: a part of the proof. -/
import Derived.Test.YtadfknojfbmjgaaGreatC19
import Derived.Test.YtadfknojfbmjgaaGreatC17
set_option linter.all false
namespace Go.Proofs.YtadfknojfbmjgaaGreat
set_option maxRecDepth 100000
set_option maxHeartbeats 4000000
namespace sx
noncomputable section
open Go Go.RowKit cls syn
variable {s:Ps} {G:List Gt} {A:Ps->Ps×List Nd} {l:List (List Nd)}
def nz0 (h:s.opens=0):nn ⟨s.i,0,s.ae,s.err,s.wh⟩=s:=by rw[ez0,<-h]
def xW (y:QD):sA (gq y.1.1) (20-y.2.toNat) (yO y):=Cd _ _ _
theorem EK {d n:Nat} (h:s.err≠0\/aQ G s 124=false):dJ G A d n s l=(s,l):=by
 cases n with
 | zero=>rfl
 | succ n=>
  grind [dJ]
theorem EL {d n:Nat} (h:¬(s.err=0/\s.i<G.length/\aQ G s 124=false/\aQ G s 41=false)):ea G A d n s l=(s,l):=by
 cases n with
 | zero=>rfl
 | succ n=>unfold ea;rw[Zaa h]
theorem QjA (y:QD) (M:xV.pre y):Ie y:=by
 have⟨⟨p,s⟩,d⟩:=y;obtain⟨h0,z,h1⟩:fv (p,s)/\(0<=d/\d<=20)/\s.i<=p.1.length:=M;have⟨i,g,es,f⟩:=h0.out;have⟨_,_,_,e,w⟩:=s;cases es;obtain⟨d,rfl⟩:=Zau z.1;simp only at h1;have hl:=f.hl;have hlen:=f.len;have q:=λ(j k:Nat) (e w:Int) (E:j<=100000) (hk:k<=4)=>(⟨f.q,E,hk,hl,hlen⟩:QF p j k).ok e w
 have A:=xW ((p,⟨i,0,g,e,w⟩),↑d);obtain⟨B,I⟩:∃B,yO ((p,⟨i,0,g,e,w⟩),↑d)=B:=⟨_,rfl⟩;rw[I] at A;have A:sA (gq p) (20-d) B:=A;have b:∀N,yO ((p,N),↑d)=B:=λ_=>I
 have H:∀j k e w,ij ((p,⟨(j:Nat),0,(k:Nat),e,w⟩),↑d)=oy (gq p) B d ⟨j,0,k,e,w⟩:=λj k e w=>by unfold ij;rw[aq,b];rfl
 have⟨c1,c2⟩:=vM A d (s:=⟨i,0,g,e,w⟩) (by grind) f.g;obtain⟨c,D⟩:∃c,oy (gq p) B d ⟨i,0,g,e,w⟩=c:=⟨_,rfl⟩;rw[D] at c1 c2;have eA:e9 ((p,⟨i,0,g,e,w⟩),↑d)=((dJ (gq p) B d ((gq p).length+2-c.1.i) c.1 [c.2]).1,bK 4 (dJ (gq p) B d ((gq p).length+2-c.1.i) c.1 [c.2]).2):=by
  unfold e9;rw[aq,b,<-D];rfl
 have cl:=c1.len;have co:=c1.op;unfold Ie;simp only[QaU,dq,Zad,Zan,Zao,Ic,aj,aO,aU,dA,H,D];refine⟨⟨⟨q i g e w ω f.g,⟨z.1,z.2⟩,h1⟩,ω⟩,⟨(⟨c.1.i,0,c.1.ae,c.1.err,c.1.wh⟩,[c.2]),rfl,rfl,rfl,rfl,rfl,⟨q _ _ _ _ ω c1.gm,c1.le,by grind⟩,by simp,?_,(gq p).length+2-c.1.i,?_,?_,?_⟩,λx L=>?_⟩
 ·have R:total [c.2]=c.2.length:=by simp[total]
  have c3:c.2.length<=3*(c.1.i-i)+1:=c2;show total [c.2]+2*1<=3*(c.1.i-i)+3
  omega
 ·grind
 ·grind
 ·grind
 ·have⟨⟨T,U,S,l,v⟩,r⟩:=x;have⟨⟨o1,J,K⟩,i3,i4,n,i5,i6,i7⟩:=L;have⟨a,o,es,C⟩:=o1.out;cases es;have J:=J;have K:a<=p.1.length+30:=K;have i3:=i3;have i4:total r+2*r.length<=3*(a-i)+3:=i4;have i5:p.1.length+2<=n+a:=i5;rw[b] at i6 i7;have i6:(dJ (gq p) B d n ⟨a,0,o,l,v⟩ r).1=(e9 ((p,⟨i,0,g,e,w⟩),↑d)).1:=i6;have i7:bK 4 (dJ (gq p) B d n ⟨a,0,o,l,v⟩ r).2=(e9 ((p,⟨i,0,g,e,w⟩),↑d)).2:=i7;have ex:nn ⟨↑a,0,↑o,l,v⟩=⟨a,0,o,l,v⟩:=rfl;simp only[ex,bz (n:=a) ω,H];have stop:(l≠0\/aQ (gq p) ⟨a,0,o,l,v⟩ 124=false)->(total r<=100000/\r.length<=100000)/\bK 4 r=(e9 ((p,⟨i,0,g,e,w⟩),↑d)).2/\(a:Int)=((e9 ((p,⟨i,0,g,e,w⟩),↑d)).1.i:Nat)/\(o:Int)=((e9 ((p,⟨i,0,g,e,w⟩),↑d)).1.ae:Nat)/\l=(e9 ((p,⟨i,0,g,e,w⟩),↑d)).1.err/\v=(e9 ((p,⟨i,0,g,e,w⟩),↑d)).1.wh:=λh=>by
   grind [EK]
  refine⟨λk1=>⟨⟨q a o l v C.i C.g,by decide,by decide⟩,λk2=>?_,λk2=>stop (.inr k2)⟩,λk1=>stop (.inl k1)⟩;have E:=cQ k2;simp only at E;have⟨b1,F⟩:=vM A d (s:=⟨a+1,0,o,l,v⟩) (by assumption) C.g;obtain⟨t,ht⟩:∃t,oy (gq p) B d ⟨a+1,0,o,l,v⟩=t:=⟨_,rfl⟩;rw[ht] at b1 F ⊢;have O:=b1.len;have P:a+1<=t.1.i:=b1.le;have G:=b1.op;have Q:=F;obtain⟨n,rfl⟩:∃m,n=m+1:=⟨n-1,ω⟩;have u:dJ (gq p) B d (n+1) ⟨a,0,o,l,v⟩ r=dJ (gq p) B d n t.1 (r++[t.2]):=by
   conv=>lhs;unfold dJ
   rw[Zac ⟨k1,k2⟩,<-ht];rfl
  rw[u] at i6 i7;refine⟨⟨⟨q _ _ _ _ ω C.g,⟨z.1,z.2⟩,by grind⟩,by grind [lT]⟩,by simp;omega,(⟨t.1.i,0,t.1.ae,t.1.err,t.1.wh⟩,r++[t.2]),rfl,rfl,rfl,rfl,rfl,⟨⟨q _ _ _ _ ω b1.gm,by grind,by grind⟩,by simp,?_,n,by grind,?_,?_⟩,?_⟩
  ·grind [gb]
  ·rw[nz0 G,b];exact i6
  ·rw[nz0 G,b];exact i7
  ·show p.1.length+30-(t.1.i:Int).toNat<p.1.length+30-(a:Int).toNat
   omega
theorem QjB (y:QD) (M:AG.pre y):Ig y:=by
 have⟨⟨p,s⟩,d⟩:=y;obtain⟨h0,C,h1⟩:fv (p,s)/\(0<=d/\d<=20)/\s.i<=p.1.length:=M;have⟨i,g,es,f⟩:=h0.out;have⟨_,_,_,e,w⟩:=s;cases es;obtain⟨d,rfl⟩:=Zau C.1;simp only at h1;have hl:=f.hl;have hlen:=f.len;have q:=λ(j k:Nat) (e w:Int) (K:j<=100000) (hk:k<=4)=>(⟨f.q,K,hk,hl,hlen⟩:QF p j k).ok e w
 have A:=xW ((p,⟨i,0,g,e,w⟩),↑d);obtain⟨B,H⟩:∃B,yO ((p,⟨i,0,g,e,w⟩),↑d)=B:=⟨_,rfl⟩;rw[H] at A;have A:sA (gq p) (20-d) B:=A;have b:∀N,yO ((p,N),↑d)=B:=λ_=>H
 have G:∀j k e w,j7 ((p,⟨(j:Nat),0,(k:Nat),e,w⟩),↑d)=sd (gq p) B d ⟨j,0,k,e,w⟩:=λj k e w=>by unfold j7;rw[aq,b];rfl
 have eA:ij ((p,⟨i,0,g,e,w⟩),↑d)=((ea (gq p) B d ((gq p).length+2-i) ⟨i,0,g,e,w⟩ []).1,bK 3 (ea (gq p) B d ((gq p).length+2-i) ⟨i,0,g,e,w⟩ []).2):=by
  unfold ij;rw[aq,b];rfl
 unfold Ig;simp only[QaU,dq,Zad,Zan,Zao,Ic,aj,aO,aU,dA,G];refine⟨⟨(⟨i,0,g,e,w⟩,[]),rfl,rfl,rfl,rfl,rfl,⟨q _ _ _ _ ω f.g,Zah _,by show i<=p.1.length+30;omega⟩,by simp,by simp[total],(gq p).length+2-i,?_,?_,?_⟩,λx L=>?_⟩
 ·show p.1.length+2<=(gq p).length+2-i+i;omega
 ·rw[b,eA];rfl
 ·rw[b,eA];rfl
 ·have⟨⟨R,S,Q,c,o⟩,r⟩:=x;have⟨⟨o1,I,J⟩,i3,i4,n,i5,i6,i7⟩:=L;have⟨a,l,es,z⟩:=o1.out;cases es;have I:=I;have J:=J;have i3:r.length<=a-i:=i3;have i4:=i4;have i5:p.1.length+2<=n+a:=i5;rw[b] at i6 i7;have i6:(ea (gq p) B d n ⟨a,0,l,c,o⟩ r).1=(ij ((p,⟨i,0,g,e,w⟩),↑d)).1:=i6;have i7:bK 3 (ea (gq p) B d n ⟨a,0,l,c,o⟩ r).2=(ij ((p,⟨i,0,g,e,w⟩),↑d)).2:=i7;have ex:nn ⟨↑a,0,↑l,c,o⟩=⟨a,0,l,c,o⟩:=rfl;simp only[G];have stop:¬(c=0/\a<(gq p).length/\aQ (gq p) ⟨a,0,l,c,o⟩ 124=false/\aQ (gq p) ⟨a,0,l,c,o⟩ 41=false)->(total r<=100000/\r.length<=100000)/\bK 3 r=(ij ((p,⟨i,0,g,e,w⟩),↑d)).2/\(a:Int)=((ij ((p,⟨i,0,g,e,w⟩),↑d)).1.i:Nat)/\(l:Int)=((ij ((p,⟨i,0,g,e,w⟩),↑d)).1.ae:Nat)/\c=(ij ((p,⟨i,0,g,e,w⟩),↑d)).1.err/\o=(ij ((p,⟨i,0,g,e,w⟩),↑d)).1.wh:=λh=>by
   grind [EL]
  have D:=q a l c o z.i z.g;refine⟨λk1=>⟨λk2=>⟨⟨D,by decide,by decide⟩,λk3=>⟨⟨D,by decide,by decide⟩,λk4=>?_,λk4=>stop λh=>by grind⟩,λk3=>stop λh=>by grind⟩,λk2=>stop λh=>ω⟩,λk1=>stop λh=>k1 h.1⟩;have⟨b1,v,E⟩:=KQ A d (t:=⟨a,0,l,c,o⟩) (by grind) z.g;obtain⟨t,ht⟩:∃t,sd (gq p) B d ⟨a,0,l,c,o⟩=t:=⟨_,rfl⟩;rw[ht] at b1 v E ⊢;have O:=b1.len;have F:=b1.op;have v:a<t.1.i:=v;have P:=E;obtain⟨n,rfl⟩:∃m,n=m+1:=⟨n-1,ω⟩;have u:ea (gq p) B d (n+1) ⟨a,0,l,c,o⟩ r=ea (gq p) B d n t.1 (r++[t.2]):=by
   grind [ea]
  rw[u] at i6 i7;refine⟨⟨⟨D,⟨C.1,C.2⟩,by assumption⟩,by grind [lT]⟩,by simp;omega,(⟨t.1.i,0,t.1.ae,t.1.err,t.1.wh⟩,r++[t.2]),rfl,rfl,rfl,rfl,rfl,⟨⟨q _ _ _ _ ω b1.gm,by grind,by grind⟩,?_,?_,n,by grind,?_,?_⟩,?_⟩
  ·grind
  ·grind [gb]
  ·rw[nz0 F,b];exact i6
  ·rw[nz0 F,b];exact i7
  ·show p.1.length+30-(t.1.i:Int).toNat<p.1.length+30-(a:Int).toNat
   omega
theorem QeT (h:s.i<G.length) (a:s.ae<=4):RB G 1 s (ej G s).1:=(AB (RB.refl (k:=0) ω a) h).1
theorem QjC (y:QD) (R:AH.pre y):Ih y:=by
 have⟨⟨p,s⟩,d⟩:=y;obtain⟨h0,E,h1⟩:fv (p,s)/\(0<=d/\d<=20)/\s.i<p.1.length:=R;have⟨i,g,es,f⟩:=h0.out;have⟨_,_,_,e,w⟩:=s;cases es;obtain⟨d,rfl⟩:=Zau E.1;simp only at h1;have hl:=f.hl;have hlen:=f.len;have q:=λ(j k:Nat) (e w:Int) (F:j<=100000) (hk:k<=4)=>(⟨f.q,F,hk,hl,hlen⟩:QF p j k).ok e w
 have A:=xW ((p,⟨i,0,g,e,w⟩),↑d);obtain⟨B,H⟩:∃B,yO ((p,⟨i,0,g,e,w⟩),↑d)=B:=⟨_,rfl⟩;rw[H] at A;have m:∀T,yO ((p,T),↑d)=B:=λ_=>H
 have u:fV ((p,⟨i,0,g,e,w⟩),↑d)=fG (gq p) B d ⟨i,0,g,e,w⟩:=by unfold fV;rw[aq,m];rfl
 have⟨b1,K,G⟩:=EC A d (t:=⟨i,0,g,e,w⟩) (by grind) f.g;obtain⟨t,ht⟩:∃t,fG (gq p) B d ⟨i,0,g,e,w⟩=t:=⟨_,rfl⟩;rw[ht] at b1 K G u;have L:=b1.len;have C:=b1.gm;have M:=b1.op;have N:=G;have⟨⟨a,to,c,b,l⟩,x⟩:=t;subst M;simp only at L C N;have P:wq ((p,⟨i,0,g,e,w⟩),↑d)=if aQ (gq p) ⟨a,0,c,b,l⟩ 42 then(⟨a+1,0,c,b,l⟩,0,-1) else if aQ (gq p) ⟨a,0,c,b,l⟩ 43 then(⟨a+1,0,c,b,l⟩,1,-1) else if aQ (gq p) ⟨a,0,c,b,l⟩ 63 then(⟨a+1,0,c,b,l⟩,0,1) else ej (gq p) ⟨a,0,c,b,l⟩:=by
  unfold wq;rw[aq,u];rfl
 have O:AJ ((p,⟨i,0,g,e,w⟩),↑d)=(b=0/\a<p.1.length/\(aQ (gq p) ⟨a,0,c,b,l⟩ 42\/aQ (gq p) ⟨a,0,c,b,l⟩ 43\/aQ (gq p) ⟨a,0,c,b,l⟩ 63\/aQ (gq p) ⟨a,0,c,b,l⟩ 123)):=by
  unfold AJ;rw[u]
 have eS:j7 ((p,⟨i,0,g,e,w⟩),↑d)=if b≠0\/(gq p).length<=a then(⟨a,0,c,b,l⟩,x) else if aQ (gq p) ⟨a,0,c,b,l⟩ 42 then jH (gq p) ⟨a+1,0,c,b,l⟩ 0 (-1) x else if aQ (gq p) ⟨a,0,c,b,l⟩ 43 then jH (gq p) ⟨a+1,0,c,b,l⟩ 1 (-1) x else if aQ (gq p) ⟨a,0,c,b,l⟩ 63 then jH (gq p) ⟨a+1,0,c,b,l⟩ 0 1 x else if aQ (gq p) ⟨a,0,c,b,l⟩ 123 then jH (gq p) (ej (gq p) ⟨a,0,c,b,l⟩).1 (ej (gq p) ⟨a,0,c,b,l⟩).2.1 (ej (gq p) ⟨a,0,c,b,l⟩).2.2 x else(⟨a,0,c,b,l⟩,x):=by
  unfold j7;rw[aq,m];unfold sd;dsimp only;have:(gq ((p,(⟨i,0,g,e,w⟩:bO)),↑d).1.1)=gq p:=rfl;rw[show fG (gq p) B ((d:Int).toNat) (nn ⟨i,0,g,e,w⟩)=(⟨a,0,c,b,l⟩,x) from ht];rfl
 have F:a<p.1.length->b=0->(aQ (gq p) ⟨a,0,c,b,l⟩ 42\/aQ (gq p) ⟨a,0,c,b,l⟩ 43\/aQ (gq p) ⟨a,0,c,b,l⟩ 63\/aQ (gq p) ⟨a,0,c,b,l⟩ 123)->j7 ((p,⟨i,0,g,e,w⟩),↑d)=jH (gq p) (wq ((p,⟨i,0,g,e,w⟩),↑d)).1 (wq ((p,⟨i,0,g,e,w⟩),↑d)).2.1 (wq ((p,⟨i,0,g,e,w⟩),↑d)).2.2 x/\RB (gq p) 1 ⟨a,0,c,b,l⟩ (wq ((p,⟨i,0,g,e,w⟩),↑d)).1:=λh1 V W=>by
  have Y:¬(b≠0\/(gq p).length<=a):=ω;have nx:RB (gq p) 1 ⟨a,0,c,b,l⟩ ⟨a+1,0,c,b,l⟩:=⟨by grind,by grind,rfl,Zah _,C⟩;grind [QeT]
 have Q:re (p,⟨a,0,c,b,l⟩)=ej (gq p) ⟨a,0,c,b,l⟩:=by unfold re;rw[aq];rfl
 unfold Ih;simp only[QaU,dq,Zad,Zan,Zao,Ic,aj,aO,aU,dA,ZaY,ZaZ,u,Q,O,bz (n:=a) ω];have same:j7 ((p,⟨i,0,g,e,w⟩),↑d)=(⟨a,0,c,b,l⟩,x)->x=(j7 ((p,⟨i,0,g,e,w⟩),↑d)).2/\(a:Int)=((j7 ((p,⟨i,0,g,e,w⟩),↑d)).1.i:Nat)/\(c:Int)=((j7 ((p,⟨i,0,g,e,w⟩),↑d)).1.ae:Nat)/\b=(j7 ((p,⟨i,0,g,e,w⟩),↑d)).1.err/\l=(j7 ((p,⟨i,0,g,e,w⟩),↑d)).1.wh:=λh=>by grind
 refine⟨⟨⟨q i g e w f.i f.g,⟨E.1,E.2⟩,h1⟩,ω⟩,λk1=>same (eS.trans (Zac (.inl k1))),λk1=>⟨λk2=>same (eS.trans (Zac (.inr ω))),λk2=>⟨⟨ZaF _,k2,?_⟩,λD=>?_⟩⟩⟩
 ·have o:a<p.1.length:=ω;have rune:∀r:Int,0<=r->r<128->(p.1.getD a 0=r↔aQ (gq p) ⟨a,0,c,b,l⟩ r):=λr Z r1=>by
   rw[HU r (show a<(gq p).length by omega),ZaP];show _↔aD (gq p) a=r
   rcases f.q.rune (i:=a) o with⟨_,h⟩ | ⟨_,h,X⟩
   ·rw[h]
   ·omega
  refine⟨λv=>?_,λv=>⟨λz=>?_,λz=>⟨λv3=>?_,λv3=>⟨λI=>?_,λI=>?_⟩⟩⟩⟩
  ·grind
  ·grind
  ·grind
  ·have v:=λh=>v ((rune 42 (by decide) (by decide)).2 h)
   have z:=λh=>z ((rune 43 (by decide) (by decide)).2 h)
   have v3:=λh=>v3 ((rune 63 (by decide) (by decide)).2 h)
   rw[P,Zaa v,Zaa z,Zaa v3];exact⟨⟨(q a c b l ω C),k2⟩,rfl,rfl,rfl,rfl,rfl,rfl,k1,o,.inr (.inr (.inr ((rune 123 (by decide) (by decide)).1 I)))⟩
  ·grind
 ·have⟨U,z2⟩:=F D.2.1 D.1 D.2.2;rw[U];generalize wq ((p,⟨i,0,g,e,w⟩),↑d)=J at*
  have z3:=z2.len;rw[nz0 z2.op];have fit:∀n:Nd,((([n]++x).length:Nat):Int)*(72:Nat)<=140737488355328:=λn=>by grind
  have S:aQ (gq p) J.1 63->an .i64 ↑J.1.i 1=((J.1.i+1:Nat):Int):=λ_=>bz ω
  unfold jH;refine⟨⟨q _ _ _ _ ω z2.gm,by decide,by decide⟩,λk=>?_,λk=>?_⟩
  ·rw[S k,qY k,k];exact⟨fit _,rfl,rfl,rfl,rfl,rfl⟩
  ·rw[qZ k,k];exact⟨fit _,rfl,rfl,rfl,rfl,rfl⟩
theorem QjD (y:QD) (z:EI.pre y):Ii y:=by
 have⟨⟨p,s⟩,d⟩:=y;obtain⟨h0,c,h1⟩:fv (p,s)/\(0<=d/\d<=20)/\s.i<p.1.length:=z;have⟨i,g,es,f⟩:=h0.out;have⟨_,_,_,e,w⟩:=s;cases es;obtain⟨d,rfl⟩:=Zau c.1;simp only at h1;have hl:=f.hl;have hlen:=f.len;have q:=λ(j k:Nat) (e w:Int) (x:j<=100000) (hk:k<=4)=>(⟨f.q,x,hk,hl,hlen⟩:QF p j k).ok e w
 have A:=xW ((p,⟨i,0,g,e,w⟩),↑d);obtain⟨B,l⟩:∃B,yO ((p,⟨i,0,g,e,w⟩),↑d)=B:=⟨_,rfl⟩;rw[l] at A;have A:=A;have b:∀D,yO ((p,D),↑d)=B:=λ_=>l
 have a:ix (gq p) (place (gq p) i)=i:=EG f.q.n ω;have u:qG ((p,⟨((i+1:Nat):Int),0,g,e,w⟩),↑d,place (gq p) i)=jh (gq p) B d ⟨i+1,0,g,e,w⟩ i:=by
  unfold qG;rw[aq,a];show jh (gq p) (yO ((p,_),↑d)) _ _ _=_
  rw[b];rfl
 have v:xR ((p,⟨((i+1:Nat):Int),0,g,e,w⟩),place (gq p) i)=y4 (gq p) ⟨i+1,0,g,e,w⟩ i:=by
  unfold xR;rw[aq,a];rfl
 have t:tx ((p,⟨((i+1:Nat):Int),0,g,e,w⟩),place (gq p) i)=r_ (gq p) ⟨i+1,0,g,e,w⟩ i:=by
  unfold tx;rw[a];rfl
 have eS:fV ((p,⟨i,0,g,e,w⟩),↑d)=fG (gq p) B d ⟨i,0,g,e,w⟩:=by unfold fV;rw[aq,b];rfl
 have C:=q (i+1) g e w ω f.g;unfold Ii;simp only[QaU,dq,Zad,Ic,aj,dA,bz (n:=i) ω,u,v,t];have E:Qby ((p,⟨((i+1:Nat):Int),0,g,e,w⟩),place (gq p) i):=⟨by assumption,i,by grind,rfl⟩;refine⟨⟨(q i g e w ω f.g),ω⟩,ZaF _,h1,?_⟩;have G:=EH (gq p) (i+1) g i e w 4 _ rfl;rcases f.q.rune (i:=i) ω with⟨o,h⟩ | ⟨o,h,_⟩
 ·have F:=f.q.p0 i;rw[h];unfold fG at eS;rw[Zaa (by grind)] at eS;dsimp only at eS;generalize aD (gq p) i=r at*
  generalize fV ((p,⟨i,0,g,e,w⟩),↑d)=at_ at*
  have nx:Ps.next ⟨i,0,g,e,w⟩=⟨i+1,0,g,e,w⟩:=rfl;rw[nx] at eS;refine⟨λk1=>?_,λk1=>⟨λk2=>?_,λk2=>⟨λk3=>?_,λk3=>⟨λk4=>?_,λk4=>⟨λk5=>?_,λk5=>⟨λk6=>?_,λk6=>?_⟩⟩⟩⟩⟩⟩
  ·rw[Zac k1] at eS;rw[eS];exact⟨⟨⟨C,⟨⟨c.1,c.2⟩,by assumption⟩,i,ω,rfl⟩,by show lT _<lT _+1;unfold lT gd;simp only;omega⟩,rfl,rfl,rfl,rfl,rfl⟩
  ·grind
  ·grind
  ·rw[Zaa k1,Zaa k2,Zaa k3,Zac k4] at eS;rw[eS];exact⟨rfl,rfl,rfl,rfl,rfl⟩
  ·rw[Zaa k1,Zaa k2,Zaa k3,Zaa k4,Zac k5] at eS;rw[eS];exact⟨rfl,rfl,rfl,rfl,rfl⟩
  ·grind
  ·rw[ Zaa k5] at eS;have W:(r=42\/r=43\/r=63\/r=123\/r=125\/r=93\/r=41\/r=124)->fv (p,⟨((i+1:Nat):Int),0,g,e,w⟩)/\[]=at_.2/\((i+1:Nat):Int)=↑at_.1.i/\(g:Int)=↑at_.1.ae/\cj (az e 0) 4 e=at_.1.err/\cj (az e 0) (place (gq p) i) w=at_.1.wh:=λh=>by
    grind
   have N:¬(r=42\/r=43\/r=63\/r=123\/r=125\/r=93\/r=41\/r=124)->[xb [(r,r)]]=at_.2/\((i+1:Nat):Int)=↑at_.1.i/\(g:Int)=↑at_.1.ae/\e=at_.1.err/\w=at_.1.wh:=λh=>by
    grind
   refine⟨λm=>⟨λ_=>W ω,λn=>absurd m n⟩,λm1=>⟨λm=>⟨λ_=>W ω,λn=>absurd m n⟩,λm2=>⟨λm=>⟨λ_=>W ω,λn=>absurd m n⟩,λm3=>⟨λm=>⟨λ_=>W ω,λn=>absurd m n⟩,λm4=>⟨λm=>⟨λ_=>W ω,λn=>absurd m n⟩,λm5=>⟨λm=>⟨λ_=>W ω,λn=>absurd m n⟩,λm6=>⟨λm=>⟨λ_=>W ω,λn=>absurd m n⟩,λm7=>⟨λm=>⟨λ_=>W ω,λn=>absurd m n⟩,λm8=>⟨λm=>ω,λ_=>N ω⟩⟩⟩⟩⟩⟩⟩⟩⟩
 ·rw[h];have eS:fV ((p,⟨i,0,g,e,w⟩),↑d)=(Ps.ak (gq p) ⟨i+1,0,g,e,w⟩ i 4,[]):=by
   rw[eS];unfold fG;rw[Zac (o)];rfl
  grind
theorem QjE (y:QG) (N:EJ.pre y):Ij y:=by
  have⟨⟨p,s⟩,d,a0⟩:=y;obtain⟨h0,⟨K,h1⟩,r⟩:fv (p,s)/\((0<=d/\d<=20)/\s.i<=p.1.length)/\xQ (gq p) a0:=N;have⟨i,g,es,f⟩:=h0.out;have⟨_,_,_,e,w⟩:=s;cases es;obtain⟨d,rfl⟩:=Zau K.1;simp only at h1;have H:=KS r;have hl:=f.hl;have hlen:=f.len;have q:=λ(j k:Nat) (e w:Int) (M:j<=100000) (hk:k<=4)=>(⟨f.q,M,hk,hl,hlen⟩:QF p j k).ok e w
  obtain⟨B,o⟩:∃B,yO ((p,⟨i,0,g,e,w⟩),↑d)=B:=⟨_,rfl⟩;have eS:qG ((p,⟨i,0,g,e,w⟩),↑d,a0)=jh (gq p) B d ⟨i,0,g,e,w⟩ (ix (gq p) a0):=by
    unfold qG;rw[aq];show jh (gq p) (yO ((p,⟨i,0,g,e,w⟩),↑d)) _ _ _=_
    rw[o];rfl
  have E:d<20->∀j k,e9 ((p,⟨(j:Nat),0,(k:Nat),e,w⟩),((d+1:Nat):Int))=B ⟨j,0,k,e,w⟩:=λL j k=>by
    rw[<-o];unfold e9 yO;rw[aq];simp only[Zad];rw[show 20-d=(20-(d+1))+1 by omega];rfl
  have A:sA (gq p) (20-d) B:=by
    have:=xW ((p,⟨i,0,g,e,w⟩),↑d);rw[o] at this;exact this
  unfold Ij;simp only[QaU,dq,Zad,Zan,Zao,Ic,aj,aO,aU,dA,ez0,Zbn,bz (n:=i) ω,bz (n:=d) ω,bz (n:=g) (by have:=f.g;omega)];have i2:an .i64 ↑i 2=((i+2:Nat):Int):=by grind
  rw[i2];generalize T:qG ((p,⟨i,0,g,e,w⟩),↑d,a0)=R at*
  obtain⟨F,u⟩:∃F,ix (gq p) a0=F:=⟨_,rfl⟩;rw[u] at H eS ⊢;have Y:=λer=>EH (gq p) i g F e w er a0 H.symm
  have W:Ps.next ⟨i,0,g,e,w⟩=⟨i+1,0,g,e,w⟩:=rfl;have X:Ps.next (Ps.next ⟨i,0,g,e,w⟩)=⟨i+2,0,g,e,w⟩:=rfl;have bad:aQ (gq p) ⟨i,0,g,e,w⟩ 63->aQ (gq p) ⟨i+1,0,g,e,w⟩ 58=false->fv (p,⟨i,0,g,e,w⟩)/\[]=R.2/\(i:Int)=↑R.1.i/\(g:Int)=↑R.1.ae/\cj (az e 0) 4 e=R.1.err/\cj (az e 0) a0 w=R.1.wh:=λk1 k2=>by
    have:R=(Ps.ak (gq p) ⟨i,0,g,e,w⟩ F 4,[]):=by rw[eS];exact Zac ⟨k1,k2⟩
    grind
  have main:(aQ (gq p) ⟨i,0,g,e,w⟩ 63->aQ (gq p) ⟨i+1,0,g,e,w⟩ 58)->R=(if 20<=d then(Ps.ak (gq p) ⟨i,0,g,e,w⟩ F 10,[]) else if aQ (gq p) ⟨i,0,g,e,w⟩ 63=true then(ff (gq p) (B ⟨i+2,0,g,e,w⟩).1 F,(B ⟨i+2,0,g,e,w⟩).2) else if 4<=g then(Ps.ak (gq p) ⟨i,0,g,e,w⟩ F 13,[]) else(ff (gq p) (B ⟨i,0,g+1,e,w⟩).1 F,{ nd 6 with cap:=((g+1:Nat):Int),kids:=1 }::(B ⟨i,0,g+1,e,w⟩).2)):=λl=>by
    grind [jh]
  have tail:(aQ (gq p) ⟨i,0,g,e,w⟩ 63->aQ (gq p) ⟨i+1,0,g,e,w⟩ 58)->_:=λl=>by
    have m:=main l;refine(show((20:Int)<=d->fv (p,⟨i,0,g,e,w⟩)/\[]=R.2/\(i:Int)=↑R.1.i/\(g:Int)=↑R.1.ae/\cj (az e 0) 10 e=R.1.err/\cj (az e 0) a0 w=R.1.wh)/\
      ((d:Int)<20->(aQ (gq p) ⟨i,0,g,e,w⟩ 63->((fv (p,⟨((i+2:Nat):Int),0,g,e,w⟩)/\S4 ((p,⟨((i+2:Nat):Int),0,g,e,w⟩),((d+1:Nat):Int)))/\lT ((p,⟨((i+2:Nat):Int),0,g,e,w⟩),((d+1:Nat):Int))+4<lT (gd ((p,⟨i,0,g,e,w⟩),↑d,a0)))/\
        (∀t,t=e9 ((p,⟨((i+2:Nat):Int),0,g,e,w⟩),((d+1:Nat):Int))->t.1.opens=0/\fv (p,⟨t.1.i,0,t.1.ae,t.1.err,t.1.wh⟩)/\(t.1.i:Int)<=90000/\t.2=R.2/\R.1=ff (gq p) t.1 F))/\
       (aQ (gq p) ⟨i,0,g,e,w⟩ 63=false->((4:Int)<=g->fv (p,⟨i,0,g,e,w⟩)/\[]=R.2/\(i:Int)=↑R.1.i/\(g:Int)=↑R.1.ae/\cj (az e 0) 13 e=R.1.err/\cj (az e 0) a0 w=R.1.wh)/\
        ((g:Int)<4->((fv (p,⟨i,0,((g+1:Nat):Int),e,w⟩)/\S4 ((p,⟨i,0,((g+1:Nat):Int),e,w⟩),((d+1:Nat):Int)))/\lT ((p,⟨i,0,((g+1:Nat):Int),e,w⟩),((d+1:Nat):Int))+4<lT (gd ((p,⟨i,0,g,e,w⟩),↑d,a0)))/\
        (∀t,t=e9 ((p,⟨i,0,((g+1:Nat):Int),e,w⟩),((d+1:Nat):Int))->t.1.opens=0/\fv (p,⟨t.1.i,0,t.1.ae,t.1.err,t.1.wh⟩)/\(t.1.i:Int)<=90000/\t.2.length<=10000/\{ nd 6 with cap:=((g+1:Nat):Int),kids:=1 }::t.2=R.2/\R.1=ff (gq p) t.1 F)))) from⟨λk=>?_,λk=>⟨λk1=>?_,λk1=>⟨λk2=>?_,λk2=>?_⟩⟩⟩)
    · grind
    · rw[Zaa ω,Zac k1] at m;have c:=cQ (l k1);simp only at c;refine⟨⟨⟨q (i+2) g e w ω f.g,⟨ZaF _,by assumption⟩,by grind⟩,by show lT _+4<lT _;unfold lT gd;simp only;omega⟩,λt ht=>?_⟩;rw[E ω] at ht;have⟨a,a2⟩:=A ⟨i+2,0,g,e,w⟩ (by assumption) f.g;rw[<-ht] at a a2 m;have a3:=a.len;exact⟨a.op,q _ _ _ _ ω a.gm,ω,by rw[m],by rw[m]⟩
    · grind
    · rw[Zaa ω,Zaa (by grind),Zaa ω] at m;refine⟨⟨⟨q i (g+1) e w ω ω,⟨ZaF _,by assumption⟩,h1⟩,by show lT _+4<lT _;unfold lT gd;simp only;omega⟩,λt ht=>?_⟩;rw[E ω] at ht;have⟨a,a2⟩:=A ⟨i,0,g+1,e,w⟩ (by grind) (by grind);rw[<-ht] at a a2 m;have a3:=a.len;have a4:=a2;exact⟨a.op,q _ _ _ _ ω a.gm,ω,ω,by rw[m],by rw[m]⟩
  generalize e9 ((p,⟨((i+2:Nat):Int),0,g,e,w⟩),((d+1:Nat):Int))=U at tail ⊢;generalize e9 ((p,⟨i,0,((g+1:Nat):Int),e,w⟩),((d+1:Nat):Int))=V at tail ⊢;have G:∀t:Ps,t.opens=0->(⟨t.i,0,t.ae,t.err,t.wh⟩:Ps)=t:=λt h=>by rw[<-h]
  have c:i+1<p.1.length->(p.1.getD (i+1) 0=58↔aQ (gq p) ⟨i+1,0,g,e,w⟩ 58):=λh=>by
    rw[HU 58 (show i+1<(gq p).length by omega),ZaP];show _↔aD (gq p) (i+1)=58
    rcases f.q.rune (i:=i+1) h with⟨_,h⟩ | ⟨_,h,S⟩
    all_goals grind
  refine⟨⟨(q i g e w ω f.g),by decide,by decide⟩,λb=>⟨λI=>bad b ?_,λI=>⟨ZaF _,I,λO=>bad b ?_,λO=>?_⟩⟩,λb=>?_⟩
  · grind [B']
  · grind
  all_goals
    have l:aQ (gq p) ⟨i,0,g,e,w⟩ 63->aQ (gq p) ⟨i+1,0,g,e,w⟩ 58:=by
      grind
    have⟨P,v⟩:=tail l;refine⟨P,λk=>⟨λk1=>?_,λk1=>⟨((v k).2 k1).1,λk2=>?_⟩⟩⟩
    · have⟨x,z⟩:=(v k).1 k1;have⟨C,D,v3,J,v5⟩:=z U rfl;rw[G _ C,v5];exact⟨x,⟨D,v3,r⟩,J,rfl,rfl,rfl,rfl⟩
    · have⟨x,z⟩:=((v k).2 k1).2 k2;have⟨C,D,v3,J,v5,Q⟩:=z V rfl;rw[G _ C,Q];exact⟨x,⟨D,v3,r⟩,by rw[Zab,ZbA];omega,v5,rfl,rfl,rfl,rfl⟩
inductive Fr where
 | alt | cat | rep | zb | uT
variable {i:Nat} {G:List Gt}
def frC:Fr->bf D
 | .alt=>xV | .cat=>AG | .rep=>AH | .zb=>EI | .uT=>EJ
def QqH:∀i,(frC i).Y->Nat
 | .alt=>λy=>lT y+4 | .cat=>λy=>lT y+3 | .rep=>λy=>lT y+2 | .zb=>λy=>lT y+1 | .uT=>λy=>lT (gd y)
def frF:Fr->Func
 | .alt=>Tryz.f53 | .cat=>Tryz.f85 | .rep=>Tryz.f121 | .zb=>Tryz.f148 | .uT=>Tryz.f175
def QjF:Fr->vE
 | .alt=>[rb,Cb] | .cat=>[rb,Cb] | .rep=>[rb,HW] | .zb=>[zd,sw,HZ,HV,AA,o_] | .uT=>[rb,sw,Nn]
def frO:∀i,(frC i).Y->cH D
 | .alt=>Qcv | .cat=>Qcw | .rep=>Qcx | .zb=>λ_=>cX () | .uT=>λ_=>cX ()
def frL:List Fr:=[.alt,.cat,.rep,.zb,.uT]
set_option maxRecDepth 100000 in
theorem QqI (b:Ok lP) (c:Ok o_):∀i,Ok (frC i):=
 xl frL frC QqH (fn:=frF) (tab:=QjF) (iX:=frO)
  (λi=>match i with
   | .alt=>⟨xP,Qcp⟩ | .cat=>⟨xP,Qcp⟩ | .rep=>⟨xP,Qjr⟩ | .zb=>⟨EB,ux,Qjs b c,Qcs b,QeQ,c⟩ | .uT=>⟨xP,ux,Qjp⟩)
  (λi=>match i with
   | .alt=>by kernel_rfl | .cat=>by kernel_rfl | .rep=>by kernel_rfl | .zb=>by kernel_rfl | .uT=>by kernel_rfl)
  (λi=>match i with
   | .alt=>by kernel_rfl | .cat=>by kernel_rfl | .rep=>by kernel_rfl | .zb=>by kernel_rfl | .uT=>by kernel_rfl)
  λi=>match i with
   | .alt=>λy a=>Eq.mp (S5 y) (QjA y a) | .cat=>λy a=>Eq.mp (S6 y) (QjB y a) | .rep=>λy a=>Eq.mp (S7 y) (QjC y a) | .zb=>λy a=>Eq.mp (S8 y) (QjD y a) | .uT=>λy a=>Eq.mp (S9 y) (QjE y a)
def uy (G:List Gt):List Int:=(List.range G.length).map λi=>if eD G i then-1 else aD G i
def uz (G:List Gt):List Int:=(List.range (G.length+1)).map (place G)
def Ik:bf D:={ zc with f:=23 }
def QqJ (y:Ik.Y):cH D:=⟨[],[],[(506,⟨Nat,[7],λx=>[(5,.ptr 0 0),(6,Qu9 (place (aR y) x)),(8,Qu9 x)],[],λx=>[(0,.cells [.grow 14 ((uy (aR y)).take x) 1,.grow 5 ((uz (aR y)).take x) 2,Qu9 0,Qu9 0,Qu9 0,Qu9 0] 141 false),(1,.tok 14 21),(2,.tok 5 3)],3,λx=>x<=(aR y).length,λx=>(aR y).length-x⟩)],[],1,[]⟩
def S' (y:List UInt8):Prop:=let b:=aR y;let j:=b.length;let t:=(bT y).1;let u:=(bT y).2.2;let v:=(bT y).2.1;let A:=λp:Prop=>aa ([0,0,0,0]:List Int) p;ag (ax 120 (eO y)) ([]=t/\2=v/\0=u/\True) (Iv (y.length<=1000000)/\aa [y] ((∃z:Nat,aa [b] (0=place b z/\0=(z:Int)/\[]=List.take z (uy b)/\[]=List.take z (uz b)/\A ((Iv (z<=j)))))/\(∀x:Nat,let d:=List.take x (uy b);let m:=ax (x:Int) (ab b);let e:=aZ (List.take x (uz b)) [place b x];let l:=gt (0,0) b (x:Int).toNat;let f:=((d,e),bO.mk 0 0 0 0 0);let a:=(e9 (f,0)).1;let c:=((a.i:Nat):Int);let g:=((a.ae:Nat):Int);let h:=az a.err 0;let w:=ax c (ab d);let n:=place (gq (d,e)) c.toNat;let k:=cj h 4 a.err;let o:=cj h n a.wh;let q:Prop:=((e9 (f,0)).2=t/\0=v/\0=u/\True);let r:Prop:=(aC 0 (x:Int)/\m/\fits (ab (aZ d [l.1])) 4/\aa [d] (aa [l.1] (fits (ab e) 8/\aC 0 (x:Int)/\m/\∃z:Nat,aa [b] (an .i64 (place b x) l.2=place b z/\an .i64 (x:Int) 1=(z:Int)/\aZ d [l.1]=List.take z (uy b)/\e=List.take z (uz b)/\A ((Iv (z<=j/\(j-z)<(j-x))))))));let s:Prop:=(ag (!h) (aa [a.err,a.wh] ([]=t/\a.err=v/\a.wh=u/\True)) (q));(Iv (x<=j))->ag m (aC 0 (x:Int)/\m/\ag (az l.1 65533) (aC 0 (x:Int)/\m/\ag (az l.2 1) (fits (ab (aZ d [-1])) 4/\fits (ab e) 8/\aC 0 (x:Int)/\m/\∃z:Nat,aa [b] (an .i64 (place b x) l.2=place b z/\an .i64 (x:Int) 1=(z:Int)/\aZ d [-1]=List.take z (uy b)/\e=List.take z (uz b)/\A ((Iv (z<=j/\(j-z)<(j-x)))))) (r)) (r)) (fits (ab e) 8/\Iv (fv f/\S4 (f,0))/\aa ([0]:List Int) (aa [d,e] (aa ([0,0,0,0]:List Int) (ag h (aa [a.err,c] (aa [d] (ag w (Iv (fv ((d,e),bO.mk c 0 g a.err a.wh)/\c<=(d.length:Int))/\aa [d,e] (aa [c,g,a.err,a.wh] (Iv (fv ((d,e),bO.mk c 0 g a.err a.wh)/\True)/\aa ([4,n]:List Int) (aa [d,e] (aa [c,g,a.err,a.wh] (ag (!(az k 0)) (aa [k,o] ([]=t/\k=v/\o=u/\True)) (q))))))) (s)))) (aa [a.err] (s)))))))))
theorem jy (G:List Gt):(uy G).length=G.length:=by grind [uy]
theorem ke (G:List Gt):(uz G).length=G.length+1:=by grind [uz]
theorem Il (h:i<G.length):(uy G)[i]'(by rw[jy];exact h)=if eD G i then-1 else aD G i:=by simp[uy]
theorem xX (h:i<=G.length):(uz G)[i]'(by rw[ke];omega)=place G i:=by simp[uz]
theorem bk {α:Type} {l:List α} (h:i<l.length) (d:α):l.getD i d=l[i]:=by grind
def ZC (h:i<G.length):eD G i=(decide ((G.getD i (0,0)).1=65533)&&decide ((G.getD i (0,0)).2=1)):=KJ h
theorem S_ (y:By):gq (uy (aR y),uz (aR y))=aR y:=by
 have d:=(nM y.length y).2;refine Zdx (by rw[xO,jy]) λi h1 a=>?_
 have c:i<(uy (aR y)).length:=by grind [jy]
 have b:(gq (uy (aR y),uz (aR y)))[i]=(if (uy (aR y)).getD i 0= -1 then 65533 else(uy (aR y)).getD i 0,(uz (aR y)).getD (i+1) 0-(uz (aR y)).getD i 0):=by simp[gq]
 rw[b,bk c,bk (by rw[ke];omega),bk (by rw[ke];omega),Il a,xX ω,xX ω,g_ a];have f:aD (aR y) i=(aR y)[i].1:=by grind [aD]
 have e:=Kt y i;grind [EA]
theorem Ta (y:By) (h:(aR y).length<=1000):Ca (uy (aR y),uz (aR y)):=by
 have e:=S_ y;refine⟨by grind [jy],λi hi=>?_,λi hi=>?_,by grind [ke,jy],by grind [G0],by rw[e];exact(nM y.length y).2,by rw[e];exact Kt y⟩
 ·grind [Il,jy]
 ·grind [jy,ke,xX]
theorem QqL (y:By) (A:Ik.pre y):S' y:=by
 have hl:=Ey y;have D:=(nM y.length y).2;have p:=xL (G:=aR y) D;unfold S';simp only[QaU,dq,aj,lO,aO,aU,Zad,Zan,Zao,dA];have K:120<y.length->bT y=([],2,0):=λh=>Zac h
 refine⟨λh=>by grind,λh=>⟨ω,⟨0,by rfl,rfl,by simp,by simp,Zaj _⟩,λx P=>⟨λc=>?_,λc=>?_⟩⟩⟩
 ·have b:x<(aR y).length:=ω;have b1:=p x ω;have B:=p (x+1) ω;rw[g_ b] at B;have t:=jy (aR y);have Q:=ke (aR y);have f:∀r,r=(if eD (aR y) x then-1 else aD (aR y) x)->((((List.take x (uy (aR y))++[r]).length:Nat):Int)*(4:Nat)<=140737488355328)/\((((List.take x (uz (aR y))++[place (aR y) x]).length:Nat):Int)*(8:Nat)<=140737488355328)/\0<=(x:Int)/\(x:Int)<((aR y).length:Int)/\∃z:Nat,an .i64 (place (aR y) x) ((aR y).getD x (0,0)).2=place (aR y) z/\an .i64 (x:Int) 1=(z:Int)/\List.take x (uy (aR y))++[r]=List.take z (uy (aR y))/\List.take x (uz (aR y))++[place (aR y) x]=List.take z (uz (aR y))/\z<=(aR y).length/\(aR y).length-z<(aR y).length-x:=λr O=>by
   refine⟨by simp;omega,by simp;omega,ZaF _,c,x+1,?_,aV ω ω,?_,?_,b,ω⟩
   ·rw[aV ω ω,g_ b]
   ·grind [List.take_succ,Il]
   ·grind [List.take_succ,xX]
  have d:=ZC b;refine⟨ZaF _,c,λk1=>⟨ZaF _,c,λk2=>?_,λk2=>?_⟩,λk1=>?_⟩
  ·grind
  ·exact⟨ZaF _,c,f _ (by rw[d,ZaN k2,Zbw];rfl)⟩
  ·exact⟨ZaF _,c,f _ (by rw[d,ZaN k1,Zcw];rfl)⟩
 ·have g:x=(aR y).length:=ω;subst g;have I:List.take (aR y).length (uy (aR y))=uy (aR y):=ZaA (by rw[jy];omega);have J:List.take (aR y).length (uz (aR y))++[place (aR y) (aR y).length]=uz (aR y):=by
   have M:(aR y).length<(uz (aR y)).length:=by rw[ke];omega
   have N:=ZbE (l:=uz (aR y)) (i:=(aR y).length);grind [xX,ke]
  rw[I,J];have v:=Ta y ω;have n:=S_ y;have q:=λ(j k:Nat) (e w:Int) (E:j<=100000) (hk:k<=4)=>(⟨v,E,hk,xO _,v.len⟩:QF (uy (aR y),uz (aR y)) j k).ok e w
  obtain⟨a,o⟩:∃a,e9 (((uy (aR y),uz (aR y)),⟨0,0,0,0,0⟩),0)=a:=⟨_,rfl⟩;have C:a=y5 (aR y) 21 0 MC:=by
   rw[<-o];unfold e9;rw[aq];show uk (gq (uy (aR y),uz (aR y))) (y5 (gq (uy (aR y),uz (aR y))) 20 1) 0 MC=_
   rw[n];rfl
  obtain⟨m,F⟩:=Cd (aR y) 21 0 MC (Zaj _) (Zaj _);rw[<-C] at m F;have t:=jy (aR y);have R:=m.len;have H:=m.gm;rw[o,n,t];obtain⟨s,hs⟩:∃s,(if a.1.err=0/\a.1.i<(aR y).length then a.1.ak (aR y) a.1.i 4 else a.1)=s:=⟨_,rfl⟩;have L:bT y=if s.err≠0 then([],s.err,s.wh) else(a.2,0,0):=by
   grind [bT,G8,GQ]
  have u:=q a.1.i a.1.ae a.1.err a.1.wh ω H;refine⟨by grind,⟨q 0 0 0 0 ω ω,⟨ZaQ _,ω⟩,ZaF _⟩,λk=>⟨λk1=>⟨⟨u,ω⟩,u,λk2=>?_,λk2=>?_⟩,λk1=>⟨λk2=>absurd k k2,λ_=>?_⟩⟩,λk=>⟨λ_=>?_,λk2=>absurd k2 k⟩⟩
  ·grind [wrE,wrW]
  ·grind [cj]
  ·grind
  ·grind
def QjG (h1:Ok xr) (a:Ok lP) (b:Ok o_):Ok Ik:=okZ [xr,xV,zd,sw] Tryz.f23 QqJ ⟨h1,QqI a b .alt,EB,ux⟩ QqL
def Tb (x:Nd):Option (Nd×Int):=
 if x.op=1\/x.op=7\/x.op=8 then some (⟨x.op,[],0,0,false,0,x.kids⟩,0)
 else if x.op=2 then(if x.r=aL x.r then some (⟨x.op,x.r,0,0,false,0,x.kids⟩,0) else none)
 else if x.op=3\/x.op=4 then(if x.kids<2 then none else some (⟨x.op,[],0,0,false,0,x.kids⟩,x.kids))
 else if x.op=5 then(if x.mn<0\/30<x.mn\/30<x.mx\/x.mx< -1\/(0<=x.mx/\x.mx<x.mn) then none else some (⟨x.op,[],x.mn,x.mx,x.lz,0,x.kids⟩,1))
 else if x.op=6 then(if x.cap<1\/4<x.cap then none else some (⟨x.op,[],0,0,false,x.cap,x.kids⟩,1))
 else none
def Tc (x:Nd):Nd×Int:=lk ((Tb x).getD (nd 0,0))
abbrev WY:=List Nd×Int×Int
def EM (y:WY):Nd:=y.1.getD y.2.1.toNat (nd 0)
def ob:Option Nat->Int
 | none=>-1
 | some b=>b
def nR (y:WY):Option Nat:=gi y.1 (241-y.2.2.toNat) y.2.1.toNat
def inW (args:List (AV D.E)) (s:St D.E):C WY:=match args with
 | [l,a,d]=>av (rowsOf D s 7 l) λl=>aI (cT a) λ_ a=>aI (cT d) λ_ d=>.ret ((l:List Nd),a,d)
 | _=>.fail
def Td (y:WY):Prop:=(y.1.length<=1000000/\∀x∈y.1,iK x)/\(0<=y.2.1/\y.2.1<=2000000)/\0<=y.2.2/\y.2.2<=241
def Im:bf D:=bZ 122 WY inW Td (λy=>[.list 7 y.1,Qu9 y.2.1,Qu9 y.2.2]) λy=>Qu9 (ob (lk (nR y)))
def Te (y:WY):Prop:=y.2.1<y.1.length/\y.2.2<=240/\(Tb (EM y)).isSome
def Np (y:WY) (x:Option Nat×Nat):Prop:=(x.1=none\/(x.2:Int)<=(Tc (EM y)).2)/\x.2<=y.1.length+1/\
 match x.1 with
 | none=>nR y=none
 | some b=>x.2<=b/\b<=y.1.length/\mR (gi y.1 (240-y.2.2.toNat)) ((Tc (EM y)).2.toNat-x.2) b=nR y
def KW (y:WY) (x:Option Nat×Nat):Nat:=if x.1=none then 0 else y.1.length+1-x.2
def QqM (y:Im.Y):cH D:=⟨[],[],[(4090,⟨Option Nat×Nat,[0,2,9],λx=>[(1,Qu9 (ob x.1)),(10,Qu9 x.2)],[],λ_=>[],0,Np y,KW y⟩)],
 [(63,⟨Unit,[0,1,2],λ_=>[(7,.ptr 0 0),(8,.ptr 1 0),(9,Qu9 (Tc (EM y)).2)],[],λ_=>[(0,.cells (D.aX 7 (EM y)) 131 false),(1,.cells (D.aX 7 (Tc (EM y)).1) 131 false)],2,λ_=>Te y,λ_=>0⟩)],1,[]⟩
def QqN (y:Im.Y):Prop:=vc [Im.under (λy=>241-y.2.2.toNat) (241-y.2.2.toNat),As] Tryz.f122 Im QqM y
def Tf:bf D:=bZ 88 (List Nd×Int) (λa s=>match a with
 | [l,a]=>av (rowsOf D s 7 l) λl=>aI (cT a) λ_ a=>.ret ((l:List Nd),a)
 | _=>.fail) (λy=>Td (y.1,y.2,0)) (λy=>[.list 7 y.1,Qu9 y.2]) λy=>Qu9 (ob (lk (nR (y.1,y.2,0))))
def Nq:bf D:={ HQ with f:=56 }
def Tg (y:List Nd) (x:Nat×Nat):Prop:=x.1<=y.length/\x.2<=x.1/\gK (y.drop x.1) x.2=gK y 0/\1<=y.length/\y.length<=480/\gi y 241 0=some y.length
def QqP (y:Nq.Y):cH D:=⟨[],[],[(122,⟨Nat×Nat,[0],λx=>[(3,Qu9 ((x.2:Int)+1)),(4,Qu9 x.1)],[],λ_=>[],0,Tg y,λx=>y.length-x.1⟩)],[],1,[]⟩
def Th (y:(List Nd)×Int×Int):Prop:=let d:=EM y;let b:=(Tc d).1;let c:=ob (lk (nR y));let g:=(Tc d).2;let A:=!(az d.kids g);let B:=!(sX d.lz b.lz);let C:=!(az d.cap b.cap);let D:=!(az d.mx b.mx);let E:=!(az d.mn b.mn);let q:=an .i64 y.2.2 1;let s:=aC (ab y.1) y.2.1;let t:=!(az (ab d.r) (ab b.r));let a:=gt (Nd.mk 0 [] 0 0 false 0 0) y.1 y.2.1.toNat;let u:=ax a.mx a.mn;let v:=!(decide (a.r=aL a.r));let f:=λp:Prop=>aa [y.1] (aa [y.2.1,y.2.2] p);let h:Prop:=(a.kids=b.kids/\a.op=d.op/\a.r=d.r/\a.mn=d.mn/\a.mx=d.mx/\a.lz=d.lz/\a.cap=d.cap/\a.kids=d.kids/\(Iv (Te y)));let k:Prop:=(0=b.mn/\0=b.mx/\false=b.lz/\0=b.cap/\h);let l:Prop:=(a.op=b.op/\[]=b.r/\k);let i:Prop:=(∃z:Unit,f (0=g/\l));let m:Prop:=(∃z:Unit,f (1=g/\a.op=b.op/\[]=b.r/\a.mn=b.mn/\a.mx=b.mx/\a.lz=b.lz/\0=b.cap/\h));let n:Prop:=(ag (ax a.kids 2) ((-1)=c/\True) (∃z:Unit,f (a.kids=g/\l)));let o:Prop:=(ag (az a.op 5) (aa [a.mn,a.mx,a.mx] (aa [a.lz,a.lz,a.lz] (ag (ax a.mn 0) ((-1)=c/\True) (ag (ax 30 a.mn) ((-1)=c/\True) (ag (ax 30 a.mx) ((-1)=c/\True) (ag (ax a.mx (-1)) ((-1)=c/\True) (ag (aC 0 a.mx) (ag u ((-1)=c/\True) (m)) (m)))))))) (ag (az a.op 6) (ag (ax a.cap 1) ((-1)=c/\True) (ag (ax 4 a.cap) ((-1)=c/\True) (∃z:Unit,f (1=g/\a.op=b.op/\[]=b.r/\0=b.mn/\0=b.mx/\false=b.lz/\a.cap=b.cap/\h)))) ((-1)=c/\True)));let j:Prop:=(ag (az a.op 2) (Iv (a.r.length<=2000000)/\aa [a.r] (ag v ((-1)=c/\True) (∃z:Unit,f (0=g/\a.op=b.op/\a.r=b.r/\k)))) (ag (az a.op 3) (ag (az a.op 3) (n) (o)) (ag (az a.op 4) (n) (o))));ag s ((-1)=c/\True) (ag (ax 240 y.2.2) ((-1)=c/\True) (aC 0 y.2.1/\ax y.2.1 (ab y.1)/\(ag (az a.op 1) (ag (az a.op 1) (i) (j)) (ag (az a.op 7) (ag (az a.op 7) (i) (j)) (ag (az a.op 8) (i) (j))))/\(∀x:Unit,(Iv (Te y))->ag A ((-1)=c/\True) (ag E ((-1)=c/\True) (ag D ((-1)=c/\True) (ag B ((-1)=c/\True) (ag C ((-1)=c/\True) (ag t ((-1)=c/\True) ((∃z:(Option Nat)×Nat,aa [y.1] (aa [y.2.2,g] (an .i64 y.2.1 1=ob z.1/\0=(z.2:Int)/\(Iv (Np y z)))))/\(∀x1:(Option Nat)×Nat,let e:=ob x1.1;let w:=ax (x1.2:Int) g;(Iv (Np y x1))->ag w (ag (aC 0 e) (Iv (Td (y.1,(e,q))/\(241-q.toNat)<(241-y.2.2.toNat))/\aa [y.1] (aa [e,q] (∃z:(Option Nat)×Nat,aa [y.1] (aa [y.2.2,g] (ob (lk (nR (y.1,(e,q))))=ob z.1/\an .i64 (x1.2:Int) 1=(z.2:Int)/\(Iv (Np y z/\KW y z<KW y x1))))))) (e=c/\True)) (e=c/\True)))))))))))
def ZD:∀y,Th y=QqN y:=λy=>by kernel_rfl
def Ti (y:(List Nd)×Int):Prop:=let a:=(y.1,(y.2,(0:Int)));let b:=ob (lk (nR a));Iv (Td a)/\aa [y.1] (aa ([y.2,0,b]:List Int) (True))
def Tj (y:List Nd):Prop:=let b:=ab y;let c:=(y,((0:Int),(0:Int)));let e:=!(az (ob (lk (nR c))) b);ag (az b 0) (false=cR y/\True) (ag (ax 480 b) (false=cR y/\True) (Iv (Td c)/\aa [y] (aa ([0]:List Int) (ag e (false=cR y/\True) ((∃z:Nat×Nat,aa [y] (1=((z.2:Int)+1)/\0=(z.1:Int)/\(Iv (Tg y z))))/\(∀x:Nat×Nat,let a:=(x.1:Int);let d:=gt (Nd.mk 0 [] 0 0 false 0 0) y a.toNat;let f:=!(az d.cap ((x.2:Int)+1));(Iv (Tg y x))->ag (ax a b) (aC 0 a/\ax a b/\ag (az d.op 6) (aC 0 a/\ax a b/\ag f (false=cR y/\True) (∃z:Nat×Nat,aa [y] (an .i64 ((x.2:Int)+1) 1=((z.2:Int)+1)/\an .i64 a 1=(z.1:Int)/\(Iv (Tg y z/\(y.length-z.1)<(y.length-x.1)))))) (∃z:Nat×Nat,aa [y] (((x.2:Int)+1)=((z.2:Int)+1)/\an .i64 a 1=(z.1:Int)/\(Iv (Tg y z/\(y.length-z.1)<(y.length-x.1)))))) (true=cR y/\True)))))))
def AK (x b:Nd) (k:Int):Prop:=x.kids=k/\x.mn=b.mn/\x.mx=b.mx/\x.lz=b.lz/\x.cap=b.cap/\x.r.length=b.r.length
theorem Io (x:Nd) (h:Tb x=none):nN x=none:=by
 grind [Tb,nN]
theorem Ip (x b:Nd) (k:Int) (h:Tb x=some (b,k)):(AK x b k->nN x=some k)/\(¬AK x b k->nN x=none):=by
 grind [Tb,nN,AK]
theorem ZG {x b:Nd} {k:Int} (h:Tb x=some (b,k)):0<=k:=by
 grind [Tb]
theorem QqR (y:WY) (hy:Im.pre y):Th y:=by
 obtain⟨l,a,d⟩:=y;obtain⟨⟨h1,m⟩,s,E⟩:(l.length<=1000000/\∀x∈l,iK x)/\(0<=a/\a<=2000000)/\0<=d/\d<=241:=hy;obtain⟨a,rfl⟩:=Zau s.1;obtain⟨d,rfl⟩:=Zau E.1;have eS:nR (l,(a:Int),(d:Int))=gi l (241-d) a:=rfl;have D:EM (l,(a:Int),(d:Int))=l.getD a (nd 0):=rfl;have V:l.getD a ⟨0,[],0,0,false,0,0⟩=l.getD a (nd 0):=rfl;unfold Th;simp only[QaU,dq,Zad,Zan,Zao,ZaP,Zbi,aj,dA,ZaX,ZaY,ZaZ,V,D,aq];have stop:l.length<=a\/240<d->(-1:Int)=ob (nR (l,(a:Int),(d:Int))):=λh=>by
  rw[eS];cases hd:241-d with
  | zero=>rfl
  | succ n=>
   unfold gi;rw[Zac ω];rfl
 refine⟨λk=>stop (.inl ω),λk=>⟨λk2=>stop (.inr ω),λk2=>⟨s.1,k,?_,λZ=>?_⟩⟩⟩
 ·have G:a<l.length:=ω;have hr:(l.getD a (nd 0)).r.length<=2000000:=by
   grind [List.getElem_mem,iK]
  have bad:Tb (l.getD a (nd 0))=none->(-1:Int)=ob (nR (l,(a:Int),(d:Int))):=λh=>by
   rw[eS,show 241-d=(240-d)+1 by omega];unfold gi;rw[Zaa ω,Io _ h];rfl
  have J:∀b g,Tb (l.getD a (nd 0))=some (b,g)->Tc (l.getD a (nd 0))=(b,g)/\Te (l,(a:Int),(d:Int)):=λb g h=>by
   refine⟨by grind [Tc,aq],show(a:Int)<(l.length:Int) by omega,k2,?_⟩;grind
  clear eS;generalize nR (l,(a:Int),(d:Int))=W at*
  generalize Te (l,(a:Int),(d:Int))=q at*
  generalize l.getD a (nd 0)=x at*
  generalize Tc x=Q at*
  unfold Tb at bad J;obtain⟨op,r,mn,mx,lz,cap,kids⟩:=x;simp only at bad J hr ⊢;generalize aL r=C at*
  clear m stop;have P:(op=1\/op=7\/op=8)->Q=(⟨op,[],0,0,false,0,kids⟩,0)/\q:=λh=>J _ _ (by rw[Zac h])
  have R:op=2->r=C->Q=(⟨op,r,0,0,false,0,kids⟩,0)/\q:=λh o=>J _ _ (by grind)
  have S:(op=3\/op=4)->¬kids<2->Q=(⟨op,[],0,0,false,0,kids⟩,kids)/\q:=λh o=>J _ _ (by grind)
  have T:op=5->¬(mn<0\/30<mn\/30<mx\/mx< -1\/(0<=mx/\mx<mn))->Q=(⟨op,[],mn,mx,lz,0,kids⟩,1)/\q:=λh o=>J _ _ (by grind)
  have U:op=6->¬(cap<1\/4<cap)->Q=(⟨op,[],0,0,false,cap,kids⟩,1)/\q:=λh o=>J _ _ (by grind)
  have K:op=2->¬r=C->-1=ob W:=λh o=>bad (by grind)
  have L:(op=3\/op=4)->kids<2->-1=ob W:=λh o=>bad (by grind)
  have M:op=5->(mn<0\/30<mn\/30<mx\/mx< -1\/(0<=mx/\mx<mn))->-1=ob W:=λh o=>bad (by grind)
  have N:op=6->(cap<1\/4<cap)->-1=ob W:=λh o=>bad (by grind)
  have O:¬(op=1\/op=7\/op=8)->op≠2->¬(op=3\/op=4)->op≠5->op≠6->-1=ob W:=λh1 m s E h5=>bad (by grind)
  clear bad J;generalize ob W=w at*
  obtain⟨t,u⟩:=Q;have q0:∀{p:Prop},(op=1\/op=7\/op=8)->(t=(⟨op,[],0,0,false,0,kids⟩:Nd)->u=0->q->p)->p:=λh f=>by
   grind
  have q2:∀{p:Prop},op=2->r=C->(t=(⟨op,r,0,0,false,0,kids⟩:Nd)->u=0->q->p)->p:=λh o f=>by
   grind
  have q3:∀{p:Prop},(op=3\/op=4)->¬kids<2->(t=(⟨op,[],0,0,false,0,kids⟩:Nd)->u=kids->q->p)->p:=λh o f=>by
   grind
  have q5:∀{p:Prop},op=5->¬(mn<0\/30<mn\/30<mx\/mx< -1\/(0<=mx/\mx<mn))->(t=(⟨op,[],mn,mx,lz,0,kids⟩:Nd)->u=1->q->p)->p:=λh o f=>by
   grind
  have q6:∀{p:Prop},op=6->¬(cap<1\/4<cap)->(t=(⟨op,[],0,0,false,cap,kids⟩:Nd)->u=1->q->p)->p:=λh o f=>by
   grind
  clear P R S T U
  with_reducible repeat' first | apply And.intro | intro _
  all_goals first
   | assumption
   | (exfalso;omega)
   | (apply O<;>omega)
   | (exact K (by assumption) (by assumption))
   | (apply L<;>omega)
   | (apply M<;>omega)
   | (apply N<;>omega)
   | (refine q0 ω λh1 m s=>?_;subst h1;subst m;first | rfl | assumption)
   | (refine q2 (by assumption) (by assumption) λh1 m s=>?_;subst h1;subst m;first | rfl | assumption)
   | (refine q3 ω ω λh1 m s=>?_;subst h1;subst m;first | rfl | assumption)
   | (refine q5 ω ω λh1 m s=>?_;subst h1;subst m;first | rfl | assumption)
   | (refine q6 ω ω λh1 m s=>?_;subst h1;subst m;first | rfl | assumption)
 ·obtain⟨j1,H,I⟩:=Z;rw[D] at I;have G:a<l.length:=ω;obtain⟨⟨b,g⟩,A⟩:=Option.isSome_iff_exists.mp I;have hQ:Tc (l.getD a (nd 0))=(b,g):=by grind [Tc,aq]
  obtain⟨g1,g2⟩:=Ip _ _ _ A;have v:AK (l.getD a (nd 0)) b g->nR (l,(a:Int),(d:Int))=mR (gi l (240-d)) g.toNat (a+1):=λh=>by
   rw[eS,show 241-d=(240-d)+1 by omega];grind [gi]
  have j:¬AK (l.getD a (nd 0)) b g->(-1:Int)=ob (nR (l,(a:Int),(d:Int))):=λh=>by
   rw[eS,show 241-d=(240-d)+1 by omega];unfold gi;rw[Zaa ω,g2 h];rfl
  rw[hQ];simp only;refine⟨λe=>j λh=>absurd h.1 (by assumption),λe1=>⟨λe=>j λh=>absurd h.2.1 (by assumption),λe2=>⟨λe=>j λh=>absurd h.2.2.1 (by assumption),λe3=>⟨λe=>j λh=>absurd h.2.2.2.1 (by grind [sX]),λe4=>⟨λe=>j λh=>absurd h.2.2.2.2.1 (by assumption),λe5=>⟨λe=>j λh=>by have:=h.2.2.2.2.2;omega,λe6=>?_⟩⟩⟩⟩⟩⟩;have F:AK (l.getD a (nd 0)) b g:=⟨by assumption,by assumption,by assumption,by grind [sX],by assumption,ω⟩;have eW:=v F;have B:∀x:Option Nat×Nat,Np (l,(a:Int),(d:Int)) x↔((x.1=none\/(x.2:Int)<=g)/\x.2<=l.length+1/\match x.1 with
    | none=>nR (l,(a:Int),(d:Int))=none
    | some c=>x.2<=c/\c<=l.length/\mR (gi l (240-d)) (g.toNat-x.2) c=nR (l,(a:Int),(d:Int))):=λx=>by
   grind [Np]
  clear eS v j F;generalize nR (l,(a:Int),(d:Int))=W at*
  refine⟨⟨(some (a+1),0),by rw[bz ω];rfl,rfl,(B _).mpr ⟨.inr ?_,by simp,by simp,G,by grind⟩⟩,λx hx=>?_⟩
  ·exact ZG A
  obtain⟨z,i⟩:=x;obtain⟨i1,i2,i3⟩:=(B _).mp hx;have hiL:(i:Int)=(i:Int):=rfl;cases z with
  | none=>
   have i3:W=none:=i3;rw[i3];refine⟨λe=>⟨λe2=>absurd (show(0:Int)<=-1 from e2) (by decide),λ_=>rfl⟩,λ_=>rfl⟩
  | some c=>
   obtain⟨c1,c2,c3⟩:i<=c/\c<=l.length/\mR (gi l (240-d)) (g.toNat-i) c=W:=i3;have i1:(i:Int)<=g:=i1.resolve_left (by simp);have H:(d:Int)<=240:=H;refine⟨λe=>⟨λe2=>?_,λe2=>absurd (show(c:Int)<0 from e2) ω⟩,λe=>?_⟩
   ·have e:(i:Int)<g:=e;have X:an .i64 (d:Int) 1=((d+1:Nat):Int):=bz ω;have Y:an .i64 (i:Int) 1=((i+1:Nat):Int):=bz ω;rw[X];refine⟨⟨⟨⟨h1,m⟩,⟨show(0:Int)<=(c:Int) by omega,show(c:Int)<=2000000 by omega⟩,show(0:Int)<=((d+1:Nat):Int) by omega,show((d+1:Nat):Int)<=241 by omega⟩,ω⟩,(gi l (240-d) c,i+1),?_,Y,(B _).mpr ⟨.inr (show((i+1:Nat):Int)<=g by omega),show i+1<=l.length+1 by omega,?_⟩,?_⟩
    ·rw[show nR (l,ob (some c),((d+1:Nat):Int))=gi l (241-(d+1)) c from rfl,show 241-(d+1)=240-d by omega]
    ·rw[show g.toNat-i=(g.toNat-(i+1))+1 by omega] at c3;unfold mR at c3;have A:=uL l (240-d) c
     revert c3 A
     grind
    ·grind [KW]
   ·have e:g<=(i:Int):=e;rw[show g.toNat-i=0 by omega] at c3;grind [mR]
def QqS (y:List Nd×Int) (a:Tf.pre y):Ti y:=by
 unfold Ti;simp only[cG,Zai,db];exact a
def QjH (h:Ok kS):Ok Im:=OJ (λy=>241-y.2.2.toNat) ZD (Qei h) QqR
def QjI (h:Ok kS):Ok Tf:=okZ [Im] Tryz.f88 (λ_=>cX ()) (QjH h) QqS
theorem QqT (y:List Nd) (p:Nq.pre y):Tj y:=by
 have n:∀x∈y,iK x:=p;unfold Tj;simp only[QaU,dq,Zad,Zan,Zao,ZaP,Zbi,aj,dA,ZaX,ZaY,ZaZ,aq];have eS:nR (y,(0:Int),(0:Int))=gi y 241 0:=rfl;have d:=Nf y;rw[eS,<-d];clear d eS;unfold HO;refine⟨λk=>?_,λk=>⟨λk2=>?_,λk2=>⟨⟨⟨show y.length<=1000000 by omega,n⟩,⟨show(0:Int)<=0 by omega,show(0:Int)<=2000000 by omega⟩,show(0:Int)<=0 by omega,show(0:Int)<=241 by omega⟩,λk3=>?_,λk3=>⟨⟨(0,0),rfl,rfl,Zaj _,Zah _,rfl,ω,ω,?_⟩,λx o=>?_⟩⟩⟩⟩
 ·grind
 ·grind
 ·have e:¬gi y 241 0=some y.length:=λh=>k3 (by rw[h];rfl)
  grind
 ·revert k3
  generalize gi y 241 0=w;intro k3;cases w with
  | none=>exact absurd (show(-1:Int)=(y.length:Int) from k3) ω
  | some b=>rw[show b=y.length by have:(b:Int)=(y.length:Int):=k3;omega]
 ·obtain⟨i,g⟩:=x;obtain⟨c1,c2,c3,c4,c5,c6⟩:i<=y.length/\g<=i/\gK (y.drop i) g=gK y 0/\1<=y.length/\y.length<=480/\gi y 241 0=some y.length:=o;rw[show decide (1<=y.length)=true by grind,show decide (y.length<=480)=true by grind,c6,ZcB,ZbI,ZbI,ZbI,<-c3];refine⟨λe=>?_,λe=>?_⟩
  ·have e:i<y.length:=ω;have m:an .i64 (i:Int) 1=((i+1:Nat):Int):=bz ω;have l:an .i64 ((g:Int)+1) 1=((g+1:Nat):Int)+1:=by grind
   have j:y.getD i ⟨0,[],0,0,false,0,0⟩=y.getD i (nd 0):=rfl;have f:y.drop i=y.getD i (nd 0)::y.drop (i+1):=by
    simp_all
   generalize a:gK y 0=q at*
   simp only[j,m,l,Zad] at c3 ⊢;rw[f] at c3 ⊢;unfold gK at c3 ⊢;refine⟨ω,ω,λc=>⟨ω,ω,λe2=>?_,λe2=>?_⟩,λc=>?_⟩
   ·grind
   ·rw[Zac c,Zac e2] at c3;exact⟨(i+1,g+1),rfl,rfl,⟨by assumption,ω,c3.trans a.symm,c4,c5,c6⟩,ω⟩
   ·rw[Zaa c] at c3;exact⟨(i+1,g),rfl,rfl,⟨by assumption,ω,c3.trans a.symm,c4,c5,c6⟩,ω⟩
  ·have e:¬i<y.length:=ω;rw[show y.drop i=[] from Za9 ω];rfl
def Qcy (h:Ok kS):Ok Nq:=okZ [Tf] Tryz.f56 QqP (QjI h) QqT
def bn:Tree:=.mk 0 [] 0 0 false 0 0 []
def Iq (v:AV D.E):C Tree:=av (asAgg v) λcs=>uK D 15 cs
def hI (op:Int):List Tree->Tree
 | []=>.mk 1 [] 0 0 false 0 0 []
 | [k]=>k
 | a=>.mk op [] 0 0 false 0 0 a
def QeU (args:List (AV D.E)) (s:St D.E):C (Int×List Tree):=match args with
 | [o,l]=>aI (cT o) λ_ o=>av (rowsOf D s 15 l) λl=>.ret (o,(l:List Tree))
 | _=>.fail
def Nr:bf D:=bZ 115 (Int×List Tree) QeU (λy=>y.2.length<=1000000) (λy=>[Qu9 y.1,.list 15 y.2]) λy=>.agg (D.aX 15 (lk (hI y.1 y.2)))
def eN (x:Nd):Bool:=x.op==5&&!x.lz&&x.mx==-1&&decide (x.mn<=1)
def Tk:bf D:=bZ 119 Nd (λa _=>Qi6 a) (λ_=>True) (λy=>[.agg (D.aX 7 y)]) λy=>.bool (eN y)
def aw (op:Int) (a:List Tree):List Tree:=a.flatMap λk=>if k.op=op then k.kids else[k]
def Ns:bf D:=bZ 112 (Int×List Tree) QeU (λy=>y.2.length<=1000000/\(aw y.1 y.2).length<=1000000) (λy=>[Qu9 y.1,.list 15 y.2]) λy=>.list 15 (aw y.1 y.2)
def QqW (y:Ns.Y):cH D:=⟨[],[],[(58,⟨Nat,[0,8,9],λx=>[(5,.grow 15 (aw y.1 (y.2.take x)) 0),(10,Qu9 x)],[],λ_=>[(0,.tok 15 134)],1,λx=>x<=y.2.length/\(aw y.1 (y.2.take x)).length<=1000000,λx=>y.2.length-x⟩)],[],1,[]⟩
def jL (f:List Nd->Option (Tree×List Nd)):Nat->List Nd->Option (List Tree×List Nd)
 | 0,l=>some ([],l)
 | k+1,l=>match f l with
  | none=>none
  | some (t,a)=>match jL f k a with
   | none=>none
   | some (c,b)=>some (t::c,b)
def fH:Nat->List Nd->Option (Tree×List Nd)
 | 0,_=>none
 | _+1,[]=>none
 | n+1,x::l=>match jL (fH n) x.kids.toNat l with
  | none=>none
  | some (b,a)=>some (.mk x.op x.r x.mn x.mx x.lz x.cap x.kids b,a)
def bS (l:List Nd):Tree×List Nd:=lk ((fH l.length l).getD (bn,[]))
def Ir:bf D:=bZ 49 (List Nd) Zf (λy=>y.length<=1000000/\(fH y.length y).isSome) (λy=>[.list 7 y]) λy=>.tuple [.agg (D.aX 15 (bS y).1),.list 7 (bS y).2]
def tE (y:List Nd):Nd:=y.getD 0 (nd 0)
def Nt (y:List Nd) (x:List Tree×List Nd×Nat):Prop:=x.1.length=x.2.2/\x.2.2<=(tE y).kids.toNat/\x.2.1.length<y.length/\x.1.length+x.2.1.length+1<=y.length/\∃a l,jL (fH x.2.1.length) ((tE y).kids.toNat-x.2.2) x.2.1=some (a,l)/\x.1++a=(bS y).1.kids/\l=(bS y).2
def QqY (y:Ir.Y):cH D:=⟨[],[],[(122,⟨List Tree×List Nd×Nat,[],λx=>[(0,.list 7 x.2.1),(2,.ptr 2 0),(4,.ptr 0 0),(14,Qu9 (tE y).kids),(15,Qu9 x.2.2)],[],λx=>[(0,.cells [Qu9 (tE y).op,.list 6 (tE y).r,Qu9 (tE y).mn,Qu9 (tE y).mx,.bool (tE y).lz,Qu9 (tE y).cap,Qu9 (tE y).kids,.grow 15 x.1 1] 134 false),(1,.tok 15 134),(2,.cells (D.aX 15 bn) 134 false)],3,Nt y,λx=>(tE y).kids.toNat-x.2.2⟩)],[],1,[]⟩
def QqZ (y:Ir.Y):Prop:=vc [Ir.under (λy=>y.length) y.length] Tryz.f49 Ir QqY y
mutual
def ay:Tree->List Nd
 | .mk op r mn mx lz cap _ ks=>⟨op,r,mn,mx,lz,cap,ks.length⟩::au ks
def au:List Tree->List Nd
 | []=>[]
 | t::ts=>ay t++au ts
end
def cW (t:Tree):List Nd:=lk (ay t)
def cZ (t:Tree):Nat:=lk (SizeOf.sizeOf t)
def dG (t:Tree):Prop:=(ay t).length<=1000000/\∀x∈ay t,iK x
def Is:bf D:=bZ 51 Tree (λa _=>match a with
 | [t]=>Iq t
 | _=>.fail) dG (λy=>[.agg (D.aX 15 y)]) λy=>.list 7 (cW y)
def ph (y:Tree) (n:Nat):List Nd:=lk (⟨y.op,y.r,y.mn,y.mx,y.lz,y.cap,y.kids.length⟩::au (y.kids.take n))
def Qq0 (y:Is.Y):cH D:=⟨[],[],[(506,⟨Nat,[20,21],λx=>[(4,.grow 7 (ph y x) 0),(22,Qu9 x)],[],λ_=>[(0,.tok 7 131)],1,λx=>x<=y.kids.length,λx=>y.kids.length-x⟩)],[],1,[]⟩
def Qq1 (y:Is.Y):Prop:=vc [Is.under cZ (cZ y)] Tryz.f51 Is Qq0 y
end
end sx
end Go.Proofs.YtadfknojfbmjgaaGreat
