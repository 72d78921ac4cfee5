/- StreamRises: a part of the proof. -/
import Derived.Test.YtadfknojfbmjgaaGreatC11
set_option linter.all false
namespace Go.Proofs.YtadfknojfbmjgaaGreat
set_option maxRecDepth 100000
set_option maxHeartbeats 4000000
namespace sx
noncomputable section
open Go Go.RowKit cls syn
def QbN (y:iy×Int):Prop:=let c:=ab y.1.pl;let d:=ab y.1.us;let a:=gt 0 y.1.pl y.2.toNat;let b:Prop:=(aa [c,d] (aa [y.1.pl] (aa [y.1.us] (True))));ag (ax y.2 0) (false=si y.1 y.2/\b) (ag (aC c y.2) (false=si y.1 y.2/\b) (aC 0 y.2/\ax y.2 c/\ag (ax a d) (aC 0 a/\ax a d/\az (gt (Item.mk 0 false) y.1.us a.toNat).i y.2=si y.1 y.2/\b) (false=si y.1 y.2/\b)))
def QbO (y:iy×Int×Bool):Prop:=let a:=y.2.1;let c:=ab y.1.pl;let d:=ab y.1.us;let b:=dk y.1 a y.2.2;let e:=aZ y.1.us [Item.mk a y.2.2];let f:Prop:=(false=fu y.1 a/\c=ab b.pl/\d=ab b.us/\y.1.us=b.us/\y.1.pl=b.pl/\True);ag (ax a 0) (f) (ag (aC c a) (f) (Iv (XU y.1)/\aa [a,c,d] (aa [y.1.us] (aa [y.1.pl] (ag (si y.1 a) (f) (aC 0 a/\ax a c/\aa [c,d] (fits (ab e) 16/\true=fu y.1 a/\c=ab b.pl/\ab e=ab b.us/\e=b.us/\cA y.1.pl a.toNat d=b.pl/\True)))))))
def QbP (y:iy):Prop:=Tt 1 (aC 0 (ab y.us)/\aa [ab y.pl] (0=ab i_/\bW (wi y.us 0 (ab y.us) (np (ab y.us) (Item.mk 0 false))) 0=i_/\aa [y.pl] (True)))
def Q0 (y:Int):Prop:=ag (ax y 0) (False) (ag (ax 4096 y) (False) (aC 0 y/\aC y y/\fits y 8/\ab (np y (0:Int))=ab (uP y)/\0=ab i_/\[]=i_/\np y 0=uP y/\True))
def QbQ (y:D'):Prop:=let a:Prop:=(aa [y.n] (aa [y.l] (True)));ag (ax y.n 0) (False) (ag (ax 200 y.n) (False) (ag y.l (ag (!(az y.n 0)) (False) (a)) (a)))
def QbR (y:D'×Int):Prop:=let a:=G_ y.1 y.2;let b:Prop:=(y.1.l=(XW y.1 y.2).l/\True);let c:Prop:=(0=(XW y.1 y.2).n/\false=(XW y.1 y.2).l/\True);ag (az y.2 10) (ag y.1.l (5=a/\c) (2=a/\c)) (ag y.1.l (4=a/\y.1.n=(XW y.1 y.2).n/\b) (ag (aC 200 y.1.n) (3=a/\0=(XW y.1 y.2).n/\true=(XW y.1 y.2).l/\True) (1=a/\an .i64 y.1.n 1=(XW y.1 y.2).n/\b)))
theorem Qhy:Ok XV:=okZ (V:=QbN) [] Tryz.f186 (λ_=>cX ()) trivial λy a=>by
 unfold QbN;simp only[QaU,dq,aj,dA];obtain⟨h1,b,c⟩:XU y.1:=a;grind [si]
theorem QbS:Ok QX:=okZ (V:=QbO) [XV] Tryz.f158 (λ_=>cX ()) Qhy λy b=>by
 unfold QbO;simp only[QaU,dq,aj,aU,aO,cA];obtain⟨a,c⟩:XU y.1/\y.1.us.length<4096:=b;have no:fu y.1 y.2.1=false->false=fu y.1 y.2.1/\(y.1.pl.length:Int)=(dk y.1 y.2.1 y.2.2).pl.length/\(y.1.us.length:Int)=(dk y.1 y.2.1 y.2.2).us.length/\y.1.us=(dk y.1 y.2.1 y.2.2).us/\y.1.pl=(dk y.1 y.2.1 y.2.2).pl:=λh=>by
  grind [dk]
 refine⟨λk1=>no ?_,λk1=>⟨λk2=>no ?_,λk2=>⟨a,λk3=>no ?_,λk3=>⟨k1,k2,?_⟩⟩⟩⟩
 ·grind [fu]
 ·grind [fu]
 ·grind [fu]
 ·grind [fu,dk]
def QbT:Ok QY:=okZ (V:=QbP) [] Tryz.f156 (λ_=>cX ()) trivial λy a=>by
 unfold QbP;simp only[QaU,dq,aj];exact⟨ω,rfl,rfl⟩
def Qn5 (y:Int) (a:0<=y/\y<=4096):Q0 y:=by
 unfold Q0;simp only[QaU,dq,aj,aU];exact⟨λh=>ω,λ_=>⟨λh=>ω,λ_=>⟨a.1,ZaQ _,ω,rfl,rfl,rfl,rfl⟩⟩⟩
def QbU:Ok QZ:=okZ [] Tryz.f130 (λ_=>cX ()) trivial Qn5
theorem Q1:Ok D_:=okZ (V:=QbQ) [] Tryz.f31 (λ_=>cX ()) trivial λy a=>by
 unfold QbQ;simp only[QaU,dq,aj,Zan,Zao];obtain⟨h1,b,c⟩:0<=y.n/\y.n<=200/\(y.l->y.n=0):=a;grind
theorem Q2:Ok Ea:=okZ (V:=QbR) [] Tryz.f32 (λ_=>cX ()) trivial λy a=>by
 unfold QbR;simp only[QaU,dq];obtain⟨h1,b⟩:0<=y.1.n/\y.1.n<=200:=a;unfold G_ XW;grind
def Q3:bf D:=⟨132,Unit,λ_ _=>.ret (),λ_=>True,λ_=>[],λ_=>[],λ_=>.agg [Qu9 (-1),Qu9 (-1),Qu9 (-1),Qu9 (-1),Qu9 (-1),Qu9 (-1),Qu9 (-1),Qu9 (-1),Qu9 (-1),Qu9 (-1)],λ_=>[],0,0⟩
structure jW where
 code:List Ins
 ah:List Int
def OK (y:jW):Prop:=y.code.length<=1000/\y.ah.length<=1000/\∀x∈y.code,x.a_.length<=1000000
def X3 (y:jW):AV D.E:=.agg [.list 8 y.code,.list 5 y.ah]
def X4 (v:AV D.E) (s:St D.E):C jW:=av (asAgg v) λcs=>match cs with
 | [c,l]=>av (rowsOf D s 8 c) λc=>av (rowsOf D s 5 l) λl=>.ret ⟨c,l⟩
 | _=>.fail
def MO:bf D:=⟨131,jW,λa s=>match a with
 | [p]=>X4 p s
 | _=>.fail,OK,λy=>[X3 y],λ_=>[],X3,λ_=>[],0,0⟩
def Qhz (y:MO.Y):cH D:=⟨[],[],[(58,⟨Nat,[2,11,12],λk=>[(3,.ptr 3 0),(13,Qu9 k)],[1],λk=>[(3,.cells [.grow 8 (y.code.take k) 4,.list 5 y.ah] 74 false),(4,.tok 8 128)],5,λk=>k<=y.code.length,λk=>y.code.length-k⟩)],[],1,[]⟩
structure ig where
 p:jW
 place:Int
 L:List fP
 s:iy
variable {y:By} {i:Nat}
def CX (b m n:Nat) (y:ig):List (Nat×AO D.E):=(b,.cells [.list 8 y.p.code,.list 5 y.p.ah,.int .i64 y.place,.own n 12 (ab y.L),.ptr (b+1) 0] 224 false)::(og (b+1) (b+2) m y.s++[(n,.arr 2 y.L 158 false)])
def Eb (b:Nat) (y:ig):List (Nat×AO D.E):=CX b (b+3) (b+4) y
def Ha (v:AV D.E) (s:St D.E):C ig:=match v with
 | .ptr b _=>av (cE (s.h.get b)) λo=>match o with
  | .cells cs _ _=>match cs with
   | [c,l,n,x,q]=>av (rowsOf D s 8 c) λc=>av (rowsOf D s 5 l) λl=>aI (cT n) λ_ n=>av (rowsOf D s 2 x) λx=>av (XT q s) λq=>.ret ⟨⟨c,l⟩,n,x,q⟩
   | _=>.fail
  | _=>.fail
 | _=>.fail
def MP (a:List (AV D.E)) (s:St D.E):C ig:=match a with
 | [p]=>Ha p s
 | _=>.fail
def rE:List fP:=[]
def Q4:bf D:=⟨134,ig,MP,λy=>y.p.code.length<=4096,λ_=>[.ptr 0 0],Eb 0,λ_=>.ptr 5 0,λy=>Eb 0 y++Eb 5 ⟨y.p,0,rE,⟨uP y.p.code.length,i_⟩⟩,5,10⟩
def iS (s:Int):fP:=⟨false,-1,-1,-1,-1,-1,-1,-1,-1,-1,-1,[⟨s,-1,-1,-1,-1,-1,-1,-1,-1,-1,-1⟩]⟩
def Q5 (y:ig) (k:Nat):ig:={ y with L:=y.L++(y.p.ah.take k).map iS }
def MQ:bf D:=⟨97,ig,MP,λy=>y.p.ah.length+y.L.length<=1000000,λ_=>[.ptr 0 0],Eb 0,λ_=>.tuple [],λy=>CX 0 3 5 (Q5 y y.p.ah.length),5,6⟩
def Qn9 (y:MQ.Y):cH D:=⟨[],[],[(6,⟨Nat,[0,8,9],λk=>[(10,Qu9 k)],[],λk=>CX 0 3 5 (Q5 y k),6,λk=>k<=y.p.ah.length,λk=>y.p.ah.length-k⟩)],[],1,[]⟩
def QbV (y:Unit):Prop:=aa ([-1,-1,-1,-1,-1,-1,-1,-1,-1,-1]:List Int) (True)
def Ku (y:jW):Prop:=let a:=y.code.length;let b:=ab y.code;fits (ab y.ah) 8/\(∃z:Nat,aa [y.code] (aa [b] (0=(z:Int)/\[]=List.take z y.code/\aa [y.ah] ((Iv (z<=a))))))/\(∀x:Nat,let c:=List.take x y.code;let d:=gt (Ins.mk 0 0 0 []) y.code (x:Int).toNat;(Iv (x<=a))->ag (ax (x:Int) b) (aC 0 (x:Int)/\ax (x:Int) b/\fits (ab d.a_) 8/\fits (ab (aZ c [d])) 48/\∃z:Nat,aa [y.code] (aa [b] (an .i64 (x:Int) 1=(z:Int)/\aZ c [d]=List.take z y.code/\aa [y.ah] ((Iv (z<=a/\(a-z)<(a-x))))))) (c=y.code/\aa [y.ah] (True)))
def QbW (y:ig):Prop:=let a:=ab y.p.code;let b:=uP (y.p.code.length:Int);Iv (0<=a/\a<=4096)/\aa [a] (aa [y.p.code] (aa [y.p.ah] (aa ([0]:List Int) (0=ab rE/\ab (uP a)=ab b/\aa [ab i_] (aa [i_] (uP a=b/\[]=rE/\aa [y.p.code] (aa [y.p.ah] (aa [y.place,ab y.L,ab y.s.pl,ab y.s.us] (aa [y.s.pl] (aa [y.s.us] (aa [y.L] (True))))))))))))
def QbX (y:ig):Prop:=let b:=ab y.p.ah;let a:=y.p.ah.length;let e:=λp:Prop=>aa [y.p.code] (aa [y.p.ah] (aa [y.place] p));let f:=λp:Prop=>aa [ab y.s.pl,ab y.s.us] (aa [y.s.pl] (aa [y.s.us] p));(∃z:Nat,aa [y.p.ah] (aa [b] (0=(z:Int)/\e (ab y.L=ab (y.L++List.map iS (List.take z y.p.ah))/\y.L=(y.L++List.map iS (List.take z y.p.ah))/\f ((Iv (z<=a)))))))/\(∀x:Nat,let c:=ab (y.L++List.map iS (List.take x y.p.ah));let d:=aZ (y.L++List.map iS (List.take x y.p.ah)) [fP.mk false (-1) (-1) (-1) (-1) (-1) (-1) (-1) (-1) (-1) (-1) [Thread.mk (gt 0 y.p.ah (x:Int).toNat) (-1) (-1) (-1) (-1) (-1) (-1) (-1) (-1) (-1) (-1)]];(Iv (x<=a))->ag (ax (x:Int) b) (aC 0 (x:Int)/\ax (x:Int) b/\Iv True/\Iv True/\fits (ab d) 112/\aa [c,c,c] (∃z:Nat,aa [y.p.ah] (aa [b] (an .i64 (x:Int) 1=(z:Int)/\e (ab d=ab (y.L++List.map iS (List.take z y.p.ah))/\d=(y.L++List.map iS (List.take z y.p.ah))/\f ((Iv (z<=a/\(a-z)<(a-x))))))))) (e (c=ab (y.L++List.map iS (List.take a y.p.ah))/\(y.L++List.map iS (List.take x y.p.ah))=(y.L++List.map iS (List.take a y.p.ah))/\f (True))))
theorem QbY:Ok Q3:=okZ (V:=QbV) [] Tryz.f132 (λ_=>⟨[],[],[],[],11,[]⟩) trivial λy a=>by
 grind [QbV]
theorem QhA (y:jW) (a:OK y):Ku y:=by
 unfold Ku;simp only[QaU,dq,aj,aU,aO,dA,Zad];obtain⟨h1,b,c⟩:y.code.length<=1000/\y.ah.length<=1000/\∀x∈y.code,x.a_.length<=1000000:=a;grind [List.take_append_getElem]
def QhB:Ok MO:=okZ [] Tryz.f131 Qhz trivial QhA
def QbZ:Ok Q4:=okZ (V:=QbW) [QZ] Tryz.f134 (λ_=>cX ()) QbU λy a=>by
 unfold QbW;simp only[QaU,dq,aj];have h:y.p.code.length<=4096:=a;exact⟨⟨ω,ω⟩,rfl,rfl⟩
theorem Q6 (L:List fP) {l:List Int} (h:i<l.length):L++(l.take i).map iS++[iS (l.getD i 0)]=L++(l.take (i+1)).map iS:=by
 grind [List.take_append_getElem]
theorem Qb0:Ok MQ:=okZ (V:=QbX) [Q3] Tryz.f97 Qn9 QbY λy a=>by
 unfold QbX;simp only[QaU,dq,aj,aU,aO,dA,Zad];have h:y.p.ah.length+y.L.length<=1000000:=a;refine⟨⟨0,rfl,by simp,by simp,Zaj _⟩,λx b=>⟨λk=>?_,λk=>?_⟩⟩
 ·have hk:x<y.p.ah.length:=ω;have e:=Q6 y.L hk;have hl:(y.L++(y.p.ah.take (x+1)).map iS).length<=1000001:=by
   grind
  refine⟨ω,k,?_,x+1,aV ω ω,ZaR (λl:List fP=>(l.length:Int)) e,e,ω,ω⟩;grind
 ·grind
def Hb (y:Int):Prop:=let d:=(bQ y.toNat).2;let a:=(bQ y.toNat).1;let b:=(d.2:Int);let c:=(d.1:Int);let e:Prop:=((-1)=a/\0=c/\0=b/\True);ag (ax y 128) (0=a/\0=c/\0=b/\True) (ag (ax y 194) (e) (ag (ax y 224) (1=a/\128=c/\191=b/\True) (ag (az y 224) (2=a/\160=c/\191=b/\True) (ag (az y 237) (2=a/\128=c/\159=b/\True) (ag (ax y 240) (2=a/\128=c/\191=b/\True) (ag (az y 240) (3=a/\144=c/\191=b/\True) (ag (ax y 244) (3=a/\128=c/\191=b/\True) (ag (az y 244) (3=a/\128=c/\143=b/\True) (e)))))))))
def BY (y:List UInt8):Prop:=let c:=ab y;let d:=((gt 0 y 0).toNat:Int);let a:=(bQ d.toNat).1;let j:=(bQ d.toNat).2;let g:=(j.2:Int);let h:=(j.1:Int);let e:Prop:=(0=(bq y).1/\0=(bq y).2/\false=gz y/\True);ag (az c 0) (e) (Tt 1 (ax 0 c/\Iv (G9 d)/\aa [d] (ag (ax a 0) (e) (Tt 1 (ax 0 c/\(ag (ax 0 a) (Tt 1 (ax 0 c/\aC 0 (wc .u64 a)/\Tt 1 (∃z:Unit,aa [y] (aa [a,h,g] (ql .i32 (wc .i32 d) (QgJ .i32 63 (wc .u64 a))=uO y/\(Iv True)))))) (∃z:Unit,aa [y] (aa [a,h,g] (wc .i32 d=uO y/\(Iv True)))))/\(∀x:Unit,(Iv True)->(∃z:Nat×Int,aa [y] (aa [a] (uO y=z.2/\h=rC y z.1/\g=rD y z.1/\1=(z.1:Int)/\(Iv (xq y z.1 z.2)))))/\(∀x1:Nat×Int,let b:=(x1.1:Int);let i:=((gt 0 y b.toNat).toNat:Int);let k:=ax (rD y x1.1) i;let f:=ax i (rC y x1.1);(Iv (xq y x1.1 x1.2))->ag (aC b a) (ag (aC c b) (0=(bq y).1/\0=(bq y).2/\true=gz y/\True) (aC 0 b/\ax b c/\ag f (e) (aC 0 b/\ax b c/\ag k (e) (Tt 1 (aC 0 b/\ax b c/\∃z:Nat×Int,aa [y] (aa [a] (OB .i32 (sW .i32 x1.2 6) (wc .i32 (ql .u8 i 63))=z.2/\128=rC y z.1/\191=rD y z.1/\an .i64 b 1=(z.1:Int)/\(Iv (xq y z.1 z.2/\(5-z.1)<(5-x1.1)))))))))) (x1.2=(bq y).1/\an .i64 a 1=(bq y).2/\false=gz y/\True))))))))
def Q8 (y:List UInt8):Prop:=(∃z:(List UInt8)×(List (Int×Int)),y=z.1/\[]=z.2/\(Iv ((z.2++aR z.1)=aR y/\(z.1.length+z.2.length)<=y.length)))/\(∀x:(List UInt8)×(List (Int×Int)),let a:=(bq x.1).2;let b:=aZ x.2 [(65533,1)];let c:=aZ x.2 [((bq x.1).1,a)];(Iv ((x.2++aR x.1)=aR y/\(x.1.length+x.2.length)<=y.length))->ag (ax 0 (ab x.1)) (Iv True/\aa [x.1] (ag (az a 0) (fits (ab b) 16/\Tt 1 (aC 1 (ab x.1)/\∃z:(List UInt8)×(List (Int×Int)),wg x.1 1=z.1/\b=z.2/\(Iv (((z.2++aR z.1)=aR y/\(z.1.length+z.2.length)<=y.length)/\z.1.length<x.1.length)))) (fits (ab c) 16/\aC 0 a/\aC a (ab x.1)/\∃z:(List UInt8)×(List (Int×Int)),wg x.1 a=z.1/\c=z.2/\(Iv (((z.2++aR z.1)=aR y/\(z.1.length+z.2.length)<=y.length)/\z.1.length<x.1.length))))) (x.2=aR y/\True))
theorem QhC (y:Int) (a:Am.pre y):Hb y:=by
 obtain⟨h1,b⟩:G9 y:=a;obtain⟨n,rfl⟩:=Zau h1;unfold Hb;simp only[QaU,Qbt,Zad];refine⟨λh=>?_,λh=>⟨λh=>?_,λh=>⟨λh=>?_,λh=>⟨λh=>?_,λh=>⟨λh=>?_,λh=>⟨λh=>?_,λh=>⟨λh=>?_,λh=>⟨λh=>?_,λh=>⟨λh=>?_,λh=>?_⟩⟩⟩⟩⟩⟩⟩⟩⟩
 all_goals
  grind [bQ]
def Qd7:Ok Am:=okZ [] Tryz.f107 Qhw trivial QhC
def ky (y:By) (i:Nat):((y.getD i 0).toNat:Int)<256:=by have:=(y.getD i 0).toNat_lt;omega
theorem pU (h:y≠[]):bq y=if (mo y).1<0 then(0,0) else match dj (mo y).1.toNat (uO y) (mo y).2.1 (mo y).2.2 (y.drop 1) with
  | some r=>(r,(mo y).1+1)
  | none=>(0,0):=by
 cases y with
 | nil=>exact absurd rfl h
 | cons c t=>rfl
theorem Qd8 {y:By}:0<=uO y/\uO y<256:=by
 have:=ky y 0;grind [uO,syn.start]
theorem Qd9 (h:0<=(mo y).1):uO y<128:=by
 have:=ky y 0;unfold uO syn.start mo at*
 repeat' split
 all_goals grind [bQ]
theorem Qea (y:By) (n:qT.pre y):BY y:=by
 have m:=(ji (y.getD 0 0).toNat).1;have g:=(ji (y.getD 0 0).toNat).2;have l:bQ (y.getD 0 0).toNat=mo y:=rfl;rw[l] at m g;have B:=ky y 0;unfold BY;simp only[QaU,Qbt,aj,gt,Zad,l];have hl:(y.length:Int)≠0->y≠[]:=λh e=>h (by grind)
 refine⟨λh=>?_,λh=>⟨ω,⟨by grind [G9]⟩,λj=>?_,λj=>⟨ω,⟨λp=>⟨ω,?_,?_⟩,λp=>⟨(),?_,⟨trivial⟩⟩⟩,λ_ _=>⟨⟨(1,uO y),rfl,by rfl,by rfl,rfl,⟨?_⟩⟩,λx A=>?_⟩⟩⟩⟩
 ·obtain rfl:y=[]:=Zap ω;exact⟨rfl,rfl,rfl⟩
 ·grind [pU,gz]
 ·grind [Qhs]
 ·refine⟨(),?_,⟨trivial⟩⟩;rw[vG (k:=.i32) (by show(-2147483648:Int)<=_;omega) (by show _<=(2147483647:Int);omega),Qhs ω ω];unfold uO syn.start;rcases m with e | e | e | e | e
  ·omega
  ·omega
  ·rw[e];exact QU (k:=.i32) ω (by show _<=(2147483647:Int);omega)
  ·rw[e];exact QV (k:=.i32) ω (by show _<=(2147483647:Int);omega)
  ·rw[e];exact QbJ (k:=.i32) ω (by show _<=(2147483647:Int);omega)
 ·rw[vG (k:=.i32) (by show(-2147483648:Int)<=_;omega) (by show _<=(2147483647:Int);omega)];grind [uO,syn.start]
 ·have:=@Qd8 y;refine⟨Zah _,ω,this.1,by have:=Qd9 j;simpa using this,?_,?_⟩
  ·rfl
  ·rfl
 ·obtain⟨i,r⟩:=x;obtain⟨i1,i2,i3,i4,i5,i6⟩:xq y i r:=A.out;have f:=hl h;have b:=pU f;rw[Zaa ω] at b;have hk:i<=4:=ω;have bi:=ky y i;have a:gz y=jJ (mo y).1.toNat (mo y).2.1 (mo y).2.2 (y.drop 1):=by grind [gz]
  simp only at*
  rw[i5] at b;rw[i6] at a;refine⟨λq=>?_,λq=>?_⟩
  ·obtain⟨d,c⟩:∃d,(mo y).1.toNat+1-i=d+1:=⟨(mo y).1.toNat-i,ω⟩;rw[c] at b a;refine⟨λs=>?_,λs=>⟨ω,ω,?_⟩⟩
   ·have e:y.drop i=[]:=Zbu ω;rw[e] at b a;rw[b,a];exact⟨rfl,rfl,rfl⟩
   ·have e:y.drop i=y.getD i 0::y.drop (i+1):=by
     simp_all
    rw[e] at b a;simp only[dj,jJ] at b a;have z:0<=rC y i:=by grind [rC]
    have w:0<=rD y i:=by unfold rD;split<;>omega
    have bad:((y.getD i 0).toNat:Int)<rC y i\/rD y i<((y.getD i 0).toNat:Int)->bq y=(0,0)/\gz y=false:=λv=>by
     grind
    refine⟨λt=>?_,λt=>⟨ω,ω,λu=>?_,λu=>⟨ω,ω,?_⟩⟩⟩
    ·grind
    ·grind
    ·rw[QT (k:=.u8) ω (by show _<=(255:Int);omega),vG (k:=.i32) (by show(-2147483648:Int)<=_;omega) (by show _<=(2147483647:Int);omega)];have v:r<524288:=by
      have hi:i=1\/i=2\/i=3:=ω;grind
     rw[six i3 ω ω ω];refine⟨(i+1,r*64+((y.getD i 0).toNat:Int) % 64),rfl,by simp[rC];omega,by simp[rD];omega,aV ω ω,⟨⟨ω,ω,ω,?_,?_,?_⟩,ω⟩⟩
     ·have hi:i=1\/i=2\/i=3:=ω;grind
     ·rw[i5,c,e];simp only[dj];rw[Zaa ω];have o:rC y (i+1)=128:=by grind [rC]
      have e2:rD y (i+1)=191:=by unfold rD;rw[Zaa ω]
      grind
     ·rw[i6,c,e];simp only[jJ];rw[Zaa ω];have o:rC y (i+1)=128:=by grind [rC]
      have e2:rD y (i+1)=191:=by unfold rD;rw[Zaa ω]
      grind
  ·rw[show(mo y).1.toNat+1-i=0 by omega] at b a;grind [dj,jJ]
def BZ:Ok qT:=okZ [Am] Tryz.f74 Qd5 Qd7 Qea
theorem Ec (h:y≠[]) (h0:(bq y).2=0):aR y=(65533,1)::aR (y.drop 1):=by
 have b:=Zbe.2 h;unfold aR;obtain⟨n,a⟩:∃n,y.length=n+1:=⟨y.length-1,ω⟩;grind [mS]
theorem Kv (h:y≠[]) (h0:(bq y).2=i) (a:1<=i):aR y=bq y::aR (y.drop i):=by
 have c:=Zbe.2 h;unfold aR;obtain⟨n,b⟩:∃n,y.length=n+1:=⟨y.length-1,ω⟩;grind [o7,qS]
theorem Qob (y:By) (b:G'.pre y):Q8 y:=by
 have b:y.length<=1000000:=b;unfold Q8;simp only[QaU,Qbt,aj,aO,aU];refine⟨⟨(y,[]),rfl,rfl,⟨rfl,by simp⟩⟩,λx f=>?_⟩;obtain⟨l,out⟩:=x;obtain⟨h1,g⟩:=f.out;simp only at*
 refine⟨λh=>⟨⟨trivial⟩,λc=>?_,λc=>?_⟩,λh=>?_⟩
 ·have a:l≠[]:=λe=>by grind
  refine⟨by grind,ω,(l.drop 1,out++[(65533,1)]),rfl,rfl,⟨⟨?_,by grind⟩,by grind⟩⟩;grind [Ec]
 ·have a:l≠[]:=λe=>by grind
  rcases jj l with h0 | ⟨m,d,m1,m2,_⟩
  ·omega
  ·refine⟨by grind,ω,ω,(l.drop m,out++[bq l]),?_,rfl,⟨⟨?_,by grind⟩,by grind⟩⟩
   ·rw[d];rfl
   ·grind [Kv]
 ·obtain rfl:l=[]:=Zap ω;grind [aR,iI]
def QhD:Ok G':=okZ [qT] Tryz.f41 QnW BZ Qob
def in2 (args:List (AV D.E)):C (Int×Int):=match args with
 | [a,b]=>aI (cT a) λ_ m=>aI (cT b) λ_ n=>.ret (m,n)
 | _=>.fail
def An:bf D:=bZ 146 Int (λa _=>in1 a) G9 (λy=>[.int .u8 y]) λy=>Qu9 ((bQ y.toNat).1+1)
def QhE (_:An.Y):cH D:=cX ()
def MS (c d:Int):Bool:=if c=224 then decide (160<=d)&&decide (d<=191) else if c=237 then decide (128<=d)&&decide (d<=159) else if c=240 then decide (144<=d)&&decide (d<=191)
 else if c=244 then decide (128<=d)&&decide (d<=143) else decide (128<=d)&&decide (d<=191)
def MT:bf D:=bZ 147 (Int×Int) (λa _=>in2 a) (λ_=>True) (λy=>[.int .u8 y.1,.int .u8 y.2]) λy=>.bool (MS y.1 y.2)
def Qoc (_:MT.Y):cH D:=cX ()
def o9 (y:By):Option Int:=dj (mo y).1.toNat (uO y) (mo y).2.1 (mo y).2.2 (y.drop 1)
def ur (y:By):Bool:=jJ (mo y).1.toNat (mo y).2.1 (mo y).2.2 (y.drop 1)
def fC (y:By):Int×Int:=if y=[]\/(mo y).1<0 then(0,0) else if (o9 y).isSome then((mo y).1+1,(mo y).1+1) else if ur y then(y.length,(mo y).1+1) else(0,0)
def Ao:bf D:=bZ 120 By QW (λ_=>True) (λy=>[.list 0 y]) λy=>.tuple [Qu9 (fC y).1,Qu9 (fC y).2]
def uu (y:By) (i:Nat):Prop:=1<=i/\(i:Int)<=(mo y).1+1/\i<=y.length/\(∃r,o9 y=dj ((mo y).1.toNat+1-i) r (rC y i).toNat (rD y i).toNat (y.drop i))/\ur y=jJ ((mo y).1.toNat+1-i) (rC y i).toNat (rD y i).toNat (y.drop i)
def QhG (y:Ao.Y):cH D:=⟨[],[],[(122,⟨Nat,[0,4],λx=>[(5,Qu9 x)],[],λ_=>[],0,λx=>uu y x,λx=>5-x⟩)],[],1,[]⟩
def uQ (y:By):Gt:=if (bq y).2=0 then(65533,1) else bq y
def Ap:bf D:=bZ 84 By QW (λ_=>True) (λy=>[.list 0 y]) λy=>.agg (eo 13 (uQ y))
def QhI (y:Ap.Y):cH D:=⟨[],[],[],[(31,⟨Unit,[0,2,4],λ_=>[(5,.int .i32 (uQ y).1)],[0],λ_=>[],1,λ_=>True,λ_=>0⟩)],1,[]⟩
def xr:bf D:={ G' with f:=52 }
def QhK (y:xr.Y):cH D:=⟨[],[],[(28,⟨By×List Gt,[],λx=>[(0,.list 0 x.1),(3,.grow 13 x.2 0)],[],λ_=>[(0,.tok 13 117)],1,λx=>x.2++aR x.1=aR y/\x.1.length+x.2.length<=y.length,λx=>x.1.length⟩)],[],1,[]⟩
def Hc (y:Int):Prop:=let a:Prop:=(0=((bQ y.toNat).1+1)/\True);let b:Prop:=(ag (aC 240 y) (ag (aC y 244) (4=((bQ y.toNat).1+1)/\True) (a)) (a));let c:Prop:=(ag (aC 224 y) (ag (aC y 239) (3=((bQ y.toNat).1+1)/\True) (b)) (b));ag (ax y 128) (1=((bQ y.toNat).1+1)/\True) (ag (aC 194 y) (ag (aC y 223) (2=((bQ y.toNat).1+1)/\True) (c)) (c))
def Q' (y:Int×Int):Prop:=let a:=MS y.1 y.2;ag (az y.1 224) (ag (aC 160 y.2) (aC y.2 191=a/\True) (false=a/\True)) (ag (az y.1 237) (ag (aC 128 y.2) (aC y.2 159=a/\True) (false=a/\True)) (ag (az y.1 240) (ag (aC 144 y.2) (aC y.2 191=a/\True) (false=a/\True)) (ag (az y.1 244) (ag (aC 128 y.2) (aC y.2 143=a/\True) (false=a/\True)) (ag (aC 128 y.2) (aC y.2 191=a/\True) (false=a/\True)))))
def Hd (y:List UInt8):Prop:=let c:=ab y;let g:=(fC y).1;let f:=((gt 0 y 1).toNat:Int);let b:=((gt 0 y 0).toNat:Int);let m:=ax c ((bQ b.toNat).1+1);let n:=az ((bQ b.toNat).1+1) 0;let l:=λp:Prop=>aa [y] (aa [(bQ b.toNat).1+1] p);let e:Prop:=(0=g/\0=(fC y).2/\True);let j:Prop:=(((bQ b.toNat).1+1)=(fC y).2/\True);let k:Prop:=(ag m (c=g/\j) (((bQ b.toNat).1+1)=g/\j));ag (az c 0) (e) (Tt 1 (ax 0 c/\Iv (G9 b)/\aa [b] (ag n (e) (Tt 1 (ax 0 c/\Iv (G9 b)/\aa [b] ((∃z:Nat,l (1=(z:Int)/\(Iv (uu y z))))/\(∀x:Nat,let a:=((gt 0 y (x:Int).toNat).toNat:Int);let h:=ax (x:Int) ((bQ b.toNat).1+1);let d:Prop:=(∃z:Nat,l (an .i64 (x:Int) 1=(z:Int)/\(Iv (uu y z/\(5-z)<(5-x)))));let i:Prop:=(aa [a,a] (ag (ax 191 a) (e) (d)));(Iv (uu y x))->ag h (ag (ax (x:Int) c) (ag (az (x:Int) 1) (Tt 1 (ax 0 c/\Tt 1 (ax 1 c/\Iv True/\aa [b,f] (ag (!(MS b f)) (aa [b,f] (e)) (ag (ax 1 (x:Int)) (aC 0 (x:Int)/\ax (x:Int) c/\ag (ax a 128) (aa [b,f,a] (e)) (aC 0 (x:Int)/\ax (x:Int) c/\aa [b,f,a,a] (ag (ax 191 a) (e) (d)))) (aa [b,f] (d))))))) (ag (ax 1 (x:Int)) (aC 0 (x:Int)/\ax (x:Int) c/\ag (ax a 128) (aa [a] (e)) (aC 0 (x:Int)/\ax (x:Int) c/\i)) (d))) (k)) (k))))))))
def He (y:List UInt8):Prop:=let c:=(fC y).2;let d:=(uQ y).1;let k:=az (fC y).1 0;let l:=ax (fC y).1 c;let i:=((gt 0 y 3).toNat:Int);let g:=((gt 0 y 2).toNat:Int);let b:=((gt 0 y 0).toNat:Int);let f:=((gt 0 y 1).toNat:Int);let j:=wc .i32 (ql .u8 g 63);let h:=wc .i32 (ql .u8 f 63);let a:=λp:Prop=>aa [y] (aa [c] p);let e:Prop:=(65533=d/\1=(uQ y).2/\True);Iv True/\aa [y] (ag k (e) (ag l (e) (Tt 1 (ax 0 (ab y)/\(ag (az c 2) (Tt 1 (ax 0 (ab y)/\Tt 2 (ax 1 (ab y)/\aa [b,f] (∃z:Unit,a (OB .i32 (sW .i32 (wc .i32 (ql .u8 b 31)) 6) h=d/\(Iv True)))))) (ag (az c 3) (Tt 1 (ax 0 (ab y)/\Tt 2 (ax 1 (ab y)/\Tt 2 (ax 2 (ab y)/\aa [b,f,g] (∃z:Unit,a (OB .i32 (OB .i32 (sW .i32 (wc .i32 (ql .u8 b 15)) 12) (sW .i32 h 6)) j=d/\(Iv True))))))) (ag (az c 4) (Tt 1 (ax 0 (ab y)/\Tt 2 (ax 1 (ab y)/\Tt 2 (ax 2 (ab y)/\Tt 2 (ax 3 (ab y)/\aa [b,f,g,i] (∃z:Unit,a (OB .i32 (OB .i32 (OB .i32 (sW .i32 (wc .i32 (ql .u8 b 7)) 18) (sW .i32 h 12)) (sW .i32 j 6)) (wc .i32 (ql .u8 i 63))=d/\(Iv True)))))))) (∃z:Unit,a (wc .i32 b=d/\(Iv True))))))/\(∀x:Unit,(Iv True)->aa [d] (c=(uQ y).2/\True))))))
def Hf (y:List UInt8):Prop:=(∃z:(List UInt8)×(List (Int×Int)),y=z.1/\[]=z.2/\(Iv ((z.2++aR z.1)=aR y/\(z.1.length+z.2.length)<=y.length)))/\(∀x:(List UInt8)×(List (Int×Int)),let a:=(uQ x.1).2;let b:=aZ x.2 [((uQ x.1).1,a)];(Iv ((x.2++aR x.1)=aR y/\(x.1.length+x.2.length)<=y.length))->ag (ax 0 (ab x.1)) (Iv True/\aa [x.1] (fits (ab b) 16/\aC 0 a/\aC a (ab x.1)/\∃z:(List UInt8)×(List (Int×Int)),wg x.1 a=z.1/\b=z.2/\(Iv (((z.2++aR z.1)=aR y/\(z.1.length+z.2.length)<=y.length)/\z.1.length<x.1.length)))) (x.2=aR y/\True))
theorem QhM (y:Int) (a:An.pre y):Hc y:=by
 grind [bQ,Hc]
def Qeb:Ok An:=okZ [] Tryz.f146 QhE trivial QhM
theorem Qoe (y:Int×Int) (a:MT.pre y):Q' y:=by
 grind [Q',MS]
def QhN:Ok MT:=okZ [] Tryz.f147 Qoc trivial Qoe
theorem Re (h:1<=(mo y).1) (d:Int):MS ((y.getD 0 0).toNat:Int) d=(decide (((mo y).2.1:Int)<=d)&&decide (d<=((mo y).2.2:Int))):=by
 unfold mo at*
 generalize (y.getD 0 0).toNat=n at*
 have a:((n=224/\bQ n=(2,160,191))\/(n=237/\bQ n=(2,128,159))\/(n=240/\bQ n=(3,144,191))\/(n=244/\bQ n=(3,128,143))\/(n≠224/\n≠237/\n≠240/\n≠244/\(bQ n).2=(128,191))):=by
  unfold bQ at h ⊢
  repeat' split at h
  all_goals grind
 grind [MS]
theorem Aq (h:uu y i) (h1:(i:Int)<(mo y).1+1) (j:i<y.length):
  (((y.getD i 0).toNat:Int)<rC y i\/rD y i<((y.getD i 0).toNat:Int)->fC y=(0,0))/\(¬(((y.getD i 0).toNat:Int)<rC y i\/rD y i<((y.getD i 0).toNat:Int))->uu y (i+1)):=by
 obtain⟨i1,i2,i3,⟨r,i4⟩,i5⟩:=h;obtain⟨d,b⟩:∃d,(mo y).1.toNat+1-i=d+1:=⟨(mo y).1.toNat-i,ω⟩;have e:y.drop i=y.getD i 0::y.drop (i+1):=by
  simp_all
 have f:0<=rC y i:=by grind [rC]
 have c:0<=rD y i:=by unfold rD;split<;>omega
 have g:rC y (i+1)=128:=by grind [rC]
 have e2:rD y (i+1)=191:=by unfold rD;rw[Zaa ω]
 rw[b,e] at i4 i5;simp only[dj,jJ] at i4 i5;refine⟨λa=>?_,λa=>⟨ω,ω,ω,⟨r*64+(y.getD i 0).toNat % 64,?_⟩,?_⟩⟩
 ·grind [fC]
 ·grind
 ·grind
theorem Rf (a:y≠[]) (h0:0<=(mo y).1) (h:uu y i) (h1:(mo y).1+1<=i\/y.length<=i):fC y=(min (y.length:Int) ((mo y).1+1),(mo y).1+1):=by
 obtain⟨i1,i2,i3,⟨r,i4⟩,i5⟩:=h;unfold fC;rw[Zaa (λh=>h.elim a ω)];by_cases hk:(mo y).1+1<=i
 ·rw[show(mo y).1.toNat+1-i=0 by omega] at i4;rw[i4];show(if (true:Bool)=true then _ else _)=_
  grind
 ·obtain⟨d,b⟩:∃d,(mo y).1.toNat+1-i=d+1:=⟨(mo y).1.toNat-i,ω⟩;rw[b,Zbu ω] at i4 i5;rw[i4,i5,show min (y.length:Int) ((mo y).1+1)=y.length by omega];rfl
theorem QhO (y:By) (n:Ao.pre y):Hd y:=by
 have t:=(ji (y.getD 0 0).toNat).1;have m:bQ (y.getD 0 0).toNat=mo y:=rfl;rw[m] at t;have w:=ky y 0;have hl:(y.length:Int)≠0->y≠[]:=λh e=>h (by grind)
 unfold Hd;simp only[QaU,Qbt,aj,gt,Zad,m,Zan,Zao];refine⟨λh=>?_,λh=>⟨ω,⟨by grind [G9]⟩,λo=>?_,λo=>⟨ω,⟨by grind [G9]⟩,⟨1,rfl,⟨?_⟩⟩,λi hi=>?_⟩⟩⟩
 ·obtain rfl:y=[]:=Zap ω;exact⟨rfl,rfl⟩
 ·grind [fC]
 ·exact⟨Zah _,ω,ω,⟨uO y,by rfl⟩,by rfl⟩
 ·have hi:=hi.out;have k:=hl h;have r:=hi.1;have s:=hi.2.1;have bi:=ky y i;have step:(i:Int)<(mo y).1+1->(i:Int)<y.length->¬(((y.getD i 0).toNat:Int)<rC y i\/rD y i<((y.getD i 0).toNat:Int))->∃z:Nat,an .i64 (i:Int) 1=(z:Int)/\Iv (uu y z/\5-z<5-i):=λa b c=>
   ⟨i+1,aV ω ω,⟨(Aq hi a ω).2 c,ω⟩⟩
  have stop:(i:Int)<(mo y).1+1->(i:Int)<y.length->(((y.getD i 0).toNat:Int)<rC y i\/rD y i<((y.getD i 0).toNat:Int))->(0:Int)=(fC y).1/\(0:Int)=(fC y).2:=λa b c=>by
   rw[(Aq hi a ω).1 c];exact⟨rfl,rfl⟩
  have en:(mo y).1+1<=i\/(y.length:Int)<=i->fC y=(min (y.length:Int) ((mo y).1+1),(mo y).1+1):=λa=>Rf k ω hi ω
  have u:i=1->rC y i=(mo y).2.1/\rD y i=(mo y).2.2:=λe=>by subst e;exact⟨rfl,rfl⟩
  have v:i≠1->rC y i=128/\rD y i=191:=λe=>by unfold rC rD;rw[Zaa e,Zaa e];exact⟨rfl,rfl⟩
  have fin:(mo y).1+1<=i\/(y.length:Int)<=i->(((y.length:Int)<(mo y).1+1->(y.length:Int)=(fC y).1/\(mo y).1+1=(fC y).2)/\((mo y).1+1<=(y.length:Int)->(mo y).1+1=(fC y).1/\(mo y).1+1=(fC y).2)):=λa=>by
   rw[en a];exact⟨λb=>⟨ω,rfl⟩,λb=>⟨ω,rfl⟩⟩
  refine⟨λd=>⟨λf=>⟨λp=>⟨ω,ω,⟨trivial⟩,?_⟩,λp=>?_⟩,λf=>fin (.inr f)⟩,λd=>fin (.inl d)⟩
  ·obtain rfl:i=1:=ω;rw[Re ω];obtain⟨g,e2⟩:=u rfl;have st:=stop d f;have sp:=step d f;rw[g,e2] at st sp;simp only[Zbz,ZaW,ZaP,Zbi];refine⟨λj=>st ω,λj=>⟨λl=>ω,λ_=>sp ω⟩⟩
  ·obtain⟨g,e2⟩:=v ω;have st:=stop d f;have sp:=step d f;rw[g,e2] at st sp;refine⟨λj=>⟨ω,ω,λl=>st ω,λl=>⟨ω,ω,λq=>st ω,λq=>sp ω⟩⟩,λj=>ω⟩
def Qec:Ok Ao:=okZ [An,MT] Tryz.f120 QhG ⟨Qeb,QhN⟩ QhO
theorem MU (h:ur y):o9 y=none:=by
 have key:∀(k lo hi:Nat) (r:Int) (t:By),jJ k lo hi t->dj k r lo hi t=none:=λk=>by
  induction k with
  | zero=>intro lo hi r t h;cases h
  | succ k a=>
   intro lo hi r t h;cases t with
   | nil=>rfl
   | cons b t=>
    grind [jJ,dj]
 exact key _ _ _ _ _ h
theorem Rh (h:ur y):y.length<(mo y).1+1:=by
 have key:∀(k lo hi:Nat) (t:By),jJ k lo hi t->t.length<k:=λk=>by
  induction k with
  | zero=>intro lo hi t h;cases h
  | succ k a=>
   intro lo hi t h;cases t with
   | nil=>simp
   | cons b t=>
    grind [jJ]
 have:=key _ _ _ _ h;grind
theorem MV (a:y≠[]) (h0:0<=(mo y).1) (h:(o9 y).isSome):(mo y).1+1<=y.length:=by
 cases e:o9 y with
 | none=>rw[e] at h;cases h
 | some r=>
  have:=qR _ _ _ _ _ _ e;grind [List.length_pos_iff]
theorem Hg (y:By):(fC y=(0,0)/\gz y=false/\(bq y).2=0)\/(∃k:Int,y≠[]/\fC y=((y.length:Int),k)/\(y.length:Int)<k/\gz y/\(bq y).2=0)\/
  (∃r,y≠[]/\0<=(mo y).1/\o9 y=some r/\(mo y).1+1<=y.length/\fC y=((mo y).1+1,(mo y).1+1)/\gz y=false/\bq y=(r,(mo y).1+1)):=by
 by_cases a:y=[]
 ·subst a;exact .inl ⟨rfl,rfl,rfl⟩
 by_cases h0:(mo y).1<0
 ·grind [fC,gz,pU]
 have b:=pU a;rw[Zaa h0] at b;have c:gz y=ur y:=by unfold gz;rw[ZaK a,ZaK (p:=0<=(mo y).1) ω];rfl
 have ht:fC y=if (o9 y).isSome then((mo y).1+1,(mo y).1+1) else if ur y then((y.length:Int),(mo y).1+1) else(0,0):=by
  grind [fC]
 have b:bq y=match o9 y with
  | some r=>(r,(mo y).1+1)
  | none=>(0,0):=b
 cases hs:ur y with
 | true=>
  grind [MU,Rh]
 | false=>
  rw[hs] at c ht;cases d:o9 y with
  | none=>rw[d] at b ht;exact .inl ⟨ht,c,by rw[b]⟩
  | some r=>rw[d] at b ht;exact .inr (.inr ⟨r,a,ω,rfl,MV a ω (by grind),ht,c,b⟩)
theorem Ed {x:Int} (h0:0<=x) (h1:x<2147483648):wc .i32 x=x:=vG (by show(-2147483648:Int)<=_;omega) (by show _<=(2147483647:Int);omega)
def b63 (n:UInt8):wc .i32 (ql .u8 (n.toNat:Int) 63)=(n.toNat:Int) % 64:=by
 have:=n.toNat_lt;rw[QT (k:=.u8) ω (by show _<=(255:Int);omega),Ed ω ω]
def lay {a b n:Nat} (c:b<2 ^ n) (h:2 ^ n*a+b<2147483648):OB .i32 ((2 ^ n*a:Nat):Int) (b:Int)=((2 ^ n*a+b:Nat):Int):=Qht c (by show _<=(2147483647:Int);omega)
theorem Ee {a n:Nat} (b:n<=32) (h:2 ^ n*a<2147483648):sW .i32 (a:Int) ((n:Nat):Int)=((2 ^ n*a:Nat):Int):=by
 rw[QbK (k:=.i32) b ω (by show _<=(2147483647:Int);have:((a:Int)*2 ^ n)=((2 ^ n*a:Nat):Int):=(by grind);omega)];grind
theorem QhP (y:By) (m:Ap.pre y):He y:=by
 unfold He;simp only[QaU,Qbt,aj,gt,b63];unfold uQ;rcases Hg y with⟨j,e2,l⟩ | ⟨k,h0,j,h1,e2,l⟩ | ⟨r,h0,h1,c,D,j,e2,l⟩
 ·grind
 ·grind
 ·rw[j,Zaa (by grind),l];have t:=(ji (y.getD 0 0).toNat).1;have s:bQ (y.getD 0 0).toNat=mo y:=rfl;rw[s] at t;have A:=(y.getD 0 0).toNat_lt;have b1:=(y.getD 1 0).toNat_lt;have B:=(y.getD 2 0).toNat_lt;have C:=(y.getD 3 0).toNat_lt;have cell:∀i:Nat,i<y.length->y.drop i=y.getD i 0::y.drop (i+1):=λi hi=>by
   simp_all
  unfold o9 at c;refine⟨⟨trivial⟩,λh=>absurd h ω,λ_=>⟨λh=>absurd h ω,λ_=>⟨ω,⟨λo=>⟨ω,ω,(),?_,⟨trivial⟩⟩,λo=>⟨λp=>⟨ω,ω,ω,(),?_,⟨trivial⟩⟩,λp=>⟨λq=>⟨ω,ω,ω,ω,(),?_,⟨trivial⟩⟩,λq=>⟨(),?_,⟨trivial⟩⟩⟩⟩⟩,λ_ _=>rfl⟩⟩⟩
  ·have hk:(mo y).1=1:=ω;have e:uO y=((y.getD 0 0).toNat:Int) % 32:=by unfold uO syn.start;rw[hk];rfl
   rw[hk,cell 1 ω] at c;simp only[show Int.toNat 1=1 from rfl,show Int.toNat 2=2 from rfl,show Int.toNat 3=3 from rfl,dj,e] at c;split at c
   ·cases c
   ·rw[QU (k:=.u8) ω (by show _<=(255:Int);omega),Ed ω ω,six ω ω ω ω];grind
  ·have hk:(mo y).1=2:=ω;have e:uO y=((y.getD 0 0).toNat:Int) % 16:=by unfold uO syn.start;rw[hk];rfl
   rw[hk,cell 1 ω,cell 2 ω] at c;simp only[show Int.toNat 1=1 from rfl,show Int.toNat 2=2 from rfl,show Int.toNat 3=3 from rfl,dj,e] at c;split at c
   ·cases c
   split at c
   ·cases c
   rw[<-ZbN c,QV (k:=.u8) ω (by show _<=(255:Int);omega),Ed ω ω];generalize (y.getD 0 0).toNat=d at*
   generalize (y.getD 1 0).toNat=f at*
   generalize (y.getD 2 0).toNat=g at*
   have x:=Ee (a:=d % 16) (n:=12) ω ω;have z:=Ee (a:=f % 64) (n:=6) ω ω;have u:=lay (a:=d % 16) (b:=2 ^ 6*(f % 64)) (n:=12) ω ω;have v:=lay (a:=d % 16*64+f % 64) (b:=g % 64) (n:=6) ω ω;grind
  ·have hk:(mo y).1=3:=ω;have e:uO y=((y.getD 0 0).toNat:Int) % 8:=by unfold uO syn.start;rw[hk];rfl
   rw[hk,cell 1 ω,cell 2 ω,cell 3 ω] at c;simp only[show Int.toNat 1=1 from rfl,show Int.toNat 2=2 from rfl,show Int.toNat 3=3 from rfl,dj,e] at c;split at c
   ·cases c
   split at c
   ·cases c
   split at c
   ·cases c
   rw[<-ZbN c,QbJ (k:=.u8) ω (by show _<=(255:Int);omega),Ed ω ω];generalize (y.getD 0 0).toNat=d at*
   generalize (y.getD 1 0).toNat=f at*
   generalize (y.getD 2 0).toNat=g at*
   generalize (y.getD 3 0).toNat=w at*
   have x:=Ee (a:=d % 8) (n:=18) ω ω;have z:=Ee (a:=f % 64) (n:=12) ω ω;have s3:=Ee (a:=g % 64) (n:=6) ω ω;have u:=lay (a:=d % 8) (b:=2 ^ 12*(f % 64)) (n:=18) ω ω;have v:=lay (a:=d % 8*64+f % 64) (b:=2 ^ 6*(g % 64)) (n:=12) ω ω;have E:=lay (a:=(d % 8*64+f % 64)*64+g % 64) (b:=w % 64) (n:=6) ω ω;grind
  ·have hk:(mo y).1=0:=ω;rw[hk] at c;have e:uO y=((y.getD 0 0).toNat:Int):=by grind [uO,syn.start]
   have c:some (uO y)=some r:=c;grind [Ed]
def Qed:Ok Ap:=okZ [Ao] Tryz.f84 QhI Qec QhP
theorem X_ (h:y≠[]):∃m:Nat,(uQ y).2=m/\1<=m/\m<=y.length/\aR y=uQ y::aR (y.drop m):=by
 grind [uQ,jj,Ec,Kv]
theorem QhQ (y:By) (b:xr.pre y):Hf y:=by
 have b:y.length<=1000000:=b;unfold Hf;simp only[QaU,Qbt,aj,aO,aU];refine⟨⟨(y,[]),rfl,rfl,⟨rfl,by simp⟩⟩,λx d=>?_⟩;obtain⟨l,out⟩:=x;obtain⟨h1,f⟩:=d.out;simp only at*
 refine⟨λh=>?_,λh=>?_⟩
 ·have a:l≠[]:=λe=>by grind
  obtain⟨m,c,m1,m2,e⟩:=X_ a;refine⟨⟨trivial⟩,by grind,ω,ω,(l.drop m,out++[uQ l]),?_,rfl,⟨⟨?_,by grind⟩,by grind⟩⟩
  ·rw[c];rfl
  ·grind
 ·obtain rfl:l=[]:=Zap ω;grind [aR,iI]
def Qee:Ok xr:=okZ [Ap] Tryz.f52 QhK Qed QhQ
def Ef (args:List (AV D.E)) (s:St D.E):C (List Rg):=match args with
 | [a]=>av (rowsOf D s 6 a) λl=>.ret (l:List Rg)
 | _=>.fail
def QhR (args:List (AV D.E)) (s:St D.E):C (List Rg×Int):=match args with
 | [a,b]=>av (rowsOf D s 6 a) λl=>aI (cT b) λ_ n=>.ret ((l:List Rg),n)
 | _=>.fail
def Qef (args:List (AV D.E)) (s:St D.E):C (List Rg×List Rg):=match args with
 | [a,b]=>av (rowsOf D s 6 a) λl=>av (rowsOf D s 6 b) λm=>.ret ((l:List Rg),(m:List Rg))
 | _=>.fail
def dc:bf D:=bZ 142 (List Rg) Ef (λy=>y.length<=100000000) (λy=>[.list 6 y]) λy=>.list 6 (aL y)
def at_ (l:List Rg) (i:Nat):Rg:=l.getD i (0,0)
def Hh:bf D:=bZ 188 (List Rg) Ef (λy=>y.length<=1000000) (λy=>[.list 6 y]) λy=>.list 6 (lB y)
def Qof (y:Hh.Y):cH D:=⟨[],[],[(122,⟨Nat×List Rg×Int,[8,9],λx=>[(3,.grow 6 x.2.1 0),(4,.int .i32 x.2.2),(10,Qu9 x.1)],[],λ_=>[(0,.tok 6 267)],1,λx=>x.2.1++ib x.2.2 ((aL y).drop x.1)=ib 0 (aL y)/\x.1<=(aL y).length/\x.2.1.length=x.1,λx=>(aL y).length-x.1⟩)],[],1,[]⟩
def Eg:bf D:=bZ 170 (List Rg×List Rg) Qef (λ_=>True) (λy=>[.list 6 y.1,.list 6 y.2]) λy=>.bool (decide (y.1=y.2))
def Qoh (y:Eg.Y):cH D:=⟨[(0,.fact 0)],[],[(58,⟨Nat,[0,1,12],λx=>[(13,Qu9 x)],[],λ_=>[],0,λx=>x<=y.1.length/\y.1.take x=y.2.take x,λx=>y.1.length-x⟩)],[],1,[]⟩
def Eh:bf D:=bZ 140 (List Rg) Ef (λy=>y.length<=100000000) (λy=>[.list 6 y]) λy=>.bool (decide (y=aL y))
def Qoj (_:Eh.Y):cH D:=cX ()
def Hi:bf D:=bZ 157 (List Rg×Int) QhR (λ_=>True) (λy=>[.list 6 y.1,.int .i32 y.2]) λy=>.bool (hasB y.1 y.2)
def Qol (y:Hi.Y):cH D:=⟨[(0,.fact 0)],[],[(26,⟨Nat,[1,7,8],λx=>[(9,Qu9 x)],[],λ_=>[],0,λx=>x<=y.1.length/\hasB y.1 y.2=hasB (y.1.drop x) y.2,λx=>y.1.length-x⟩)],[],1,[]⟩
def xt:bf D:={ Hi with f:=184 }
def QhS (y:xt.Y):cH D:=⟨[(0,.fact 0)],[],[(26,⟨Nat,[0,1],λx=>[(5,Qu9 x)],[],λ_=>[],0,λx=>x<=y.1.length/\hasB y.1 y.2=hasB (y.1.drop x) y.2,λx=>y.1.length-x⟩)],[],1,[]⟩
def Kw (m:List Int):List Int:=m.mergeSort λa b=>decide (a<=b)
def a8 (l:List Rg):List Int:=Kw (cP l)
def kS:bf D:=bZ 183 (List Rg) Ef (λy=>y.length<=2000000) (λy=>[.list 6 y]) λy=>.list 14 (a8 y)
def arI (b:Nat) (m:List Int):List (Nat×AO D.E):=[(b,.arr 14 m 21 false)]
def dr (l:List Rg) (i:Nat):List Int:=[0,55296,57344,1114112]++(l.take i).flatMap kO
def QhU (y:kS.Y):cH D:=⟨[],[1],[(58,⟨Nat,[0],λi=>[(3,.own 0 1 (ab (dr y i))),(4,Qu9 i)],[],λi=>arI 0 (dr y i),1,λi=>i<=y.length,λi=>y.length-i⟩),
 (122,⟨Nat×List Int,[],λx=>[(3,.own 0 1 (ab x.2)),(5,Qu9 x.1)],[],λx=>arI 0 x.2,1,λx=>1<=x.1/\x.1<=x.2.length/\x.2.Perm (cP y)/\DT x.2 x.1,λx=>(cP y).length-x.1⟩)],
 [],1,[(7826,⟨Nat×List Int,λx=>⟨Nat×List Int,[5],λz=>[(3,.own 0 1 (ab z.2)),(6,Qu9 z.1)],[],λz=>arI 0 z.2,1,λz=>z.1<=x.1/\x.1<z.2.length/\z.2.Perm (cP y)/\o4 z.2 z.1 x.1,λz=>z.1⟩,none⟩)]⟩
def arR (b:Nat) (m:List Rg):List (Nat×AO D.E):=[(b,.arr 6 m 267 false)]
def Ya (l:List Rg):Prop:=l.length<=100000000/\∀r∈l,-10<=r.2/\r.2<=1114111
def Hj:bf D where
 f:=185
 Y:=List Rg×Int×Int
 zy:=λargs s=>match args with
  | [a,b,c]=>av (rowsOf D s 6 a) λl=>aI (cT b) λ_ m=>aI (cT c) λ_ n=>.ret ((l:List Rg),m,n)
  | _=>.fail
 pre:=λy=>Ya y.1
 args:=λy=>[.own 0 2 (ab y.1),.int .i32 y.2.1,.int .i32 y.2.2]
 heap:=λy=>arR 0 y.1
 res:=λy=>.own 1 2 (ab (b5 y.1 y.2.1 y.2.2))
 h_:=λy=>arR 1 (b5 y.1 y.2.1 y.2.2)
 ox:=1
 Bv:=2
def Qop (_:Hj.Y):cH D:=cX ()
def QhW (y:List Rg) (c:Int->Bool):List (Nat×gP D):=[(122,⟨Nat,[0,3],λi=>[(4,.own 0 2 (ab (dw c (a8 y) i))),(5,.int .i64 i)],[],λi=>arR 0 (dw c (a8 y) i),1,λi=>i+1<=(a8 y).length,λi=>(a8 y).length-i⟩)]
def lP:bf D:=bZ 151 (List Rg) Ef (λy=>y.length<=2000000) (λy=>[.list 6 y]) λy=>.list 6 (aL y)
def QhX (y:lP.Y):cH D:=⟨[],[],QhW y (hasB y),[],1,[]⟩
def o_:bf D:=bZ 178 (List Rg) Ef (λy=>y.length<=2000000) (λy=>[.list 6 y]) λy=>.list 6 (lB y)
def QhZ (y:o_.Y):cH D:=⟨[],[],QhW y (λr=>!hasB y r),[],1,[]⟩
def As:bf D:={ Eh with f:=150,pre:=λy=>y.length<=2000000 }
def Qh1 (y:As.Y):cH D:=⟨[],[],[(122,⟨Nat,[0,3],λi=>[(4,Qu9 i)],[],λ_=>[],0,λi=>i<=y.length/\(aL y).take i=y.take i,λi=>y.length-i⟩)],[],1,[]⟩
end
end sx
end Go.Proofs.YtadfknojfbmjgaaGreat
