/- StreamTurned: a part of the proof. -/
import Derived.Test.YtklaonhcplaofaaGreatC4
set_option linter.all false
namespace Go.Proofs.YtklaonhcplaofaaGreat
open Go.Proofs.Tryz
set_option maxRecDepth 100000
set_option maxHeartbeats 4000000
namespace sx
noncomputable section
open Go Go.RowKit cls syn
variable {i:Nat} {y:By} {l:List Rg}
theorem Qfw (y:Int) (a:zF.pre y):Gb y:=by
 grind [bY,Gb]
def QcD:Ok zF:=okZ [] f168 Qfo trivial Qfw
theorem Qlz (y:Int×Int) (a:L8.pre y):QC y:=by
 grind [QC,L7]
def Qfx:Ok L8:=okZ [] f169 Qlv trivial Qlz
theorem QK (h:1<=(mo y).1) (d:Int):L7 ((y.getD 0 0).toNat:Int) d=(decide (((mo y).2.1:Int)<=d)&&decide (d<=((mo y).2.2:Int))):=by
 unfold mo at*
 generalize (y.getD 0 0).toNat=n at*
 have a:((n=224/\bY n=(2,160,191))\/(n=237/\bY n=(2,128,159))\/(n=240/\bY n=(3,144,191))\/(n=244/\bY n=(3,128,143))\/(n≠224/\n≠237/\n≠240/\n≠244/\(bY n).2=(128,191))):=by
  unfold bY at h ⊢
  repeat' split at h
  all_goals grind
 grind [L7]
theorem zG (h:tN y i) (h1:(i:Int)<(mo y).1+1) (g:i<y.length):
  (((y.getD i 0).toNat:Int)<uh y i\/sR y i<((y.getD i 0).toNat:Int)->eE y=(0,0))/\(¬(((y.getD i 0).toNat:Int)<uh y i\/sR y i<((y.getD i 0).toNat:Int))->tN y (i+1)):=by
 have⟨i1,i2,i3,⟨r,i4⟩,i5⟩:=h;obtain⟨d,b⟩:∃d,(mo y).1.toNat+1-i=d+1:=⟨(mo y).1.toNat-i,ω⟩;have e:y.drop i=y.getD i 0::y.drop (i+1):=by
  simp_all
 have c:0<=sR y i:=by unfold sR;split<;>omega
 have f:uh y (i+1)=128:=by grind [uh]
 have e2:sR y (i+1)=191:=by unfold sR;rw[Zaa ω]
 rw[b,e] at i4 i5;simp only[di,jm] at i4 i5;refine⟨λa=>?_,λa=>⟨ω,ω,ω,⟨r*64+(y.getD i 0).toNat % 64,?_⟩,?_⟩⟩
 ·grind [eE]
 all_goals grind
theorem QM (a:y≠[]) (h0:0<=(mo y).1) (h:tN y i) (h1:(mo y).1+1<=i\/y.length<=i):eE y=(min (y.length:Int) ((mo y).1+1),(mo y).1+1):=by
 have⟨i1,i2,i3,⟨r,i4⟩,i5⟩:=h;unfold eE;rw[Zaa (λh=>h.elim a ω)];by_cases hk:(mo y).1+1<=i
 ·rw[show(mo y).1.toNat+1-i=0 by omega] at i4;rw[i4];show(if (true:Bool)=true then _ else _)=_
  grind
 ·obtain⟨d,b⟩:∃d,(mo y).1.toNat+1-i=d+1:=⟨(mo y).1.toNat-i,ω⟩;rw[b,Zbu ω] at i4 i5;rw[i4,i5,show min (y.length:Int) ((mo y).1+1)=y.length by omega];rfl
theorem Qfy (y:By) (m:wP.pre y):Gc y:=by
 have t:=(iR (y.getD 0 0).toNat).1;have l:bY (y.getD 0 0).toNat=mo y:=rfl;rw[l] at t;have w:=mc y 0;have hl:(y.length:Int)≠0->y≠[]:=λh e=>h (by grind)
 unfold Gc;simp only[bI,fU,av,gt,Zad,l,Zan,Zao];refine⟨λh=>?_,λh=>⟨ω,⟨by grind [F7]⟩,λo=>?_,λo=>⟨ω,⟨by grind [F7]⟩,⟨1,rfl,?_⟩,λi hi=>?_⟩⟩⟩
 ·obtain rfl:y=[]:=Zap ω;exact⟨rfl,rfl⟩
 ·grind [eE]
 ·exact⟨Zah _,ω,ω,⟨ui y,by rfl⟩,by rfl⟩
 ·have hi:=hi.out;have j:=hl h;have r:=hi.1;have s:=hi.2.1;have step:(i:Int)<(mo y).1+1->(i:Int)<y.length->¬(((y.getD i 0).toNat:Int)<uh y i\/sR y i<((y.getD i 0).toNat:Int))->∃z:Nat,aw .i64 (i:Int) 1=(z:Int)/\Iv (tN y z/\5-z<5-i):=λa b c=>
   ⟨i+1,ba ω ω,(zG hi a ω).2 c,ω⟩
  have stop:(i:Int)<(mo y).1+1->(i:Int)<y.length->(((y.getD i 0).toNat:Int)<uh y i\/sR y i<((y.getD i 0).toNat:Int))->(0:Int)=(eE y).1/\(0:Int)=(eE y).2:=λa b c=>by
   rw[(zG hi a ω).1 c];exact⟨rfl,rfl⟩
  have en:(mo y).1+1<=i\/(y.length:Int)<=i->eE y=(min (y.length:Int) ((mo y).1+1),(mo y).1+1):=λa=>QM j ω hi ω
  have u:i=1->uh y i=(mo y).2.1/\sR y i=(mo y).2.2:=λe=>by subst e;exact⟨rfl,rfl⟩
  have v:i≠1->uh y i=128/\sR y i=191:=λe=>by unfold uh sR;rw[Zaa e,Zaa e];exact⟨rfl,rfl⟩
  have fin:(mo y).1+1<=i\/(y.length:Int)<=i->(((y.length:Int)<(mo y).1+1->(y.length:Int)=(eE y).1/\(mo y).1+1=(eE y).2)/\((mo y).1+1<=(y.length:Int)->(mo y).1+1=(eE y).1/\(mo y).1+1=(eE y).2)):=λa=>by
   rw[en a];exact⟨λb=>⟨ω,rfl⟩,λb=>⟨ω,rfl⟩⟩
  refine⟨λd=>⟨λf=>⟨λp=>⟨ω,ω,⟨trivial⟩,?_⟩,λp=>?_⟩,λf=>fin (.inr f)⟩,λd=>fin (.inl d)⟩
  ·obtain rfl:i=1:=ω;rw[QK ω];have⟨n,e2⟩:=u rfl;have st:=stop d f;have sp:=step d f;simp only[Zbz,ZaW,ZaP,Zbi];refine⟨λg=>st ω,λg=>⟨λk=>ω,λ_=>sp ω⟩⟩
  ·have⟨n,e2⟩:=v ω;have st:=stop d f;have sp:=step d f;refine⟨λg=>⟨ω,ω,λk=>st ω,λk=>⟨ω,ω,λq=>st ω,λq=>sp ω⟩⟩,λg=>ω⟩
def QN:Ok wP:=okZ [zF,L8] f128 Qfq ⟨QcD,Qfx⟩ Qfy
theorem L9 (h:wO y):qe y=none:=by
 have key:∀(k lo hi:Nat) (r:Int) (t:By),jm k lo hi t->di k r lo hi t=none:=λk=>by
  induction k with
  | zero=>intro lo hi r t h;cases h
  | succ k a=>
   intro lo hi r t h;cases t with
   | nil=>rfl
   | cons b t=>
    grind [jm,di]
 exact key _ _ _ _ _ h
theorem QO (h:wO y):y.length<(mo y).1+1:=by
 have key:∀(k lo hi:Nat) (t:By),jm k lo hi t->t.length<k:=λk=>by
  induction k with
  | zero=>intro lo hi t h;cases h
  | succ k a=>
   intro lo hi t h;cases t with
   | nil=>simp
   | cons b t=>
    grind [jm]
 have:=key _ _ _ _ h;grind
theorem L' (a:y≠[]) (h0:0<=(mo y).1) (h:(qe y).isSome):(mo y).1+1<=y.length:=by
 cases e:qe y with
 | none=>rw[e] at h;cases h
 | some r=>
  have:=qu _ _ _ _ _ _ e;grind [List.length_pos_iff]
theorem wS (y:By):(eE y=(0,0)/\gF y=false/\(cr y).2=0)\/(∃k:Int,y≠[]/\eE y=((y.length:Int),k)/\(y.length:Int)<k/\gF y/\(cr y).2=0)\/
  (∃r,y≠[]/\0<=(mo y).1/\qe y=some r/\(mo y).1+1<=y.length/\eE y=((mo y).1+1,(mo y).1+1)/\gF y=false/\cr y=(r,(mo y).1+1)):=by
 by_cases a:y=[]
 ·subst a;exact .inl ⟨rfl,rfl,rfl⟩
 by_cases h0:(mo y).1<0
 ·grind [eE,gF,pB]
 have b:=pB a;rw[Zaa h0] at b;have c:gF y=wO y:=by unfold gF;rw[ZaK a,ZaK (p:=0<=(mo y).1) ω];rfl
 have ht:eE y=if (qe y).isSome then((mo y).1+1,(mo y).1+1) else if wO y then((y.length:Int),(mo y).1+1) else(0,0):=by
  grind [eE]
 have b:cr y=match qe y with
  | some r=>(r,(mo y).1+1)
  | none=>(0,0):=b
 cases hs:wO y with
 | true=>
  grind [L9,QO]
 | false=>
  rw[hs] at c ht;cases d:qe y with
  | none=>rw[d] at b ht;exact .inl ⟨ht,c,by rw[b]⟩
  | some r=>rw[d] at b ht;exact .inr (.inr ⟨r,a,ω,rfl,L' a ω (by grind),ht,c,b⟩)
theorem QlA (y:By) (a:Ga.pre y):QJ y:=by
 unfold QJ;grind [wS,List.length_pos_iff]
def Qam:Ok Ga:=okZ [wP] f88 Qlx QN QlA
theorem Dw {x:Int} (h0:0<=x) (h1:x<2147483648):vz .i32 x=x:=uV (by show(-2147483648:Int)<=_;omega) (by show _<=(2147483647:Int);omega)
def b63 (n:UInt8):vz .i32 (pN .u8 (n.toNat:Int) 63)=(n.toNat:Int) % 64:=by
 have:=n.toNat_lt;rw[Qu (k:=.u8) ω (by show _<=(255:Int);omega),Dw ω ω]
def lay {a b n:Nat} (c:b<2 ^ n) (h:2 ^ n*a+b<2147483648):N5 .i32 ((2 ^ n*a:Nat):Int) (b:Int)=((2 ^ n*a+b:Nat):Int):=Qfe c (by show _<=(2147483647:Int);omega)
theorem Dx {a n:Nat} (b:n<=32) (h:2 ^ n*a<2147483648):su .i32 (a:Int) ((n:Nat):Int)=((2 ^ n*a:Nat):Int):=by
 rw[Qai (k:=.i32) b ω (by show _<=(2147483647:Int);have:((a:Int)*2 ^ n)=((2 ^ n*a:Nat):Int):=(by grind);omega)];grind
theorem Qfz (y:By) (m:wQ.pre y):Ge y:=by
 unfold Ge;simp only[bI,fU,av,gt,b63];unfold jx;rcases wS y with⟨j,e2,l⟩ | ⟨k,h0,j,h1,e2,l⟩ | ⟨r,h0,h1,c,B,j,e2,l⟩
 ·grind
 ·grind
 ·rw[j,Zaa (by grind),l];have t:=(iR (y.getD 0 0).toNat).1;have s:bY (y.getD 0 0).toNat=mo y:=rfl;rw[s] at t;have A:=(y.getD 0 0).toNat_lt;have cell:∀i:Nat,i<y.length->y.drop i=y.getD i 0::y.drop (i+1):=λi hi=>by
   simp_all
  unfold qe at c;refine⟨⟨trivial⟩,λh=>absurd h ω,λ_=>⟨λh=>absurd h ω,λ_=>⟨ω,⟨λo=>⟨ω,ω,(),?_,⟨trivial⟩⟩,λo=>⟨λp=>⟨ω,ω,ω,(),?_,⟨trivial⟩⟩,λp=>⟨λq=>⟨ω,ω,ω,ω,(),?_,⟨trivial⟩⟩,λq=>⟨(),?_,⟨trivial⟩⟩⟩⟩⟩,λ_ _=>rfl⟩⟩⟩
  ·have hk:(mo y).1=1:=ω;have e:ui y=((y.getD 0 0).toNat:Int) % 32:=by unfold ui syn.start;rw[hk];rfl
   rw[hk,cell 1 ω] at c;simp only[show Int.toNat 1=1 from rfl,show Int.toNat 2=2 from rfl,show Int.toNat 3=3 from rfl,di,e] at c;split at c
   ·cases c
   ·rw[Qv (k:=.u8) ω (by show _<=(255:Int);omega),Dw ω ω,six ω ω ω ω];grind
  ·have hk:(mo y).1=2:=ω;have e:ui y=((y.getD 0 0).toNat:Int) % 16:=by unfold ui syn.start;rw[hk];rfl
   rw[hk,cell 1 ω,cell 2 ω] at c;simp only[show Int.toNat 1=1 from rfl,show Int.toNat 2=2 from rfl,show Int.toNat 3=3 from rfl,di,e] at c;split at c
   ·cases c
   split at c
   ·cases c
   rw[<-ZbN c,Qw (k:=.u8) ω (by show _<=(255:Int);omega),Dw ω ω];generalize (y.getD 0 0).toNat=d at*
   generalize (y.getD 1 0).toNat=f at*
   generalize (y.getD 2 0).toNat=g at*
   have x:=Dx (a:=d % 16) (n:=12) ω ω;have z:=Dx (a:=f % 64) (n:=6) ω ω;have u:=lay (a:=d % 16) (b:=2 ^ 6*(f % 64)) (n:=12) ω ω;have v:=lay (a:=d % 16*64+f % 64) (b:=g % 64) (n:=6) ω ω;grind
  ·have hk:(mo y).1=3:=ω;have e:ui y=((y.getD 0 0).toNat:Int) % 8:=by unfold ui syn.start;rw[hk];rfl
   rw[hk,cell 1 ω,cell 2 ω,cell 3 ω] at c;simp only[show Int.toNat 1=1 from rfl,show Int.toNat 2=2 from rfl,show Int.toNat 3=3 from rfl,di,e] at c;split at c
   ·cases c
   split at c
   ·cases c
   split at c
   ·cases c
   rw[<-ZbN c,Qah (k:=.u8) ω (by show _<=(255:Int);omega),Dw ω ω];generalize (y.getD 0 0).toNat=d at*
   generalize (y.getD 1 0).toNat=f at*
   generalize (y.getD 2 0).toNat=g at*
   generalize (y.getD 3 0).toNat=w at*
   have x:=Dx (a:=d % 8) (n:=18) ω ω;have z:=Dx (a:=f % 64) (n:=12) ω ω;have s3:=Dx (a:=g % 64) (n:=6) ω ω;have u:=lay (a:=d % 8) (b:=2 ^ 12*(f % 64)) (n:=18) ω ω;have v:=lay (a:=d % 8*64+f % 64) (b:=2 ^ 6*(g % 64)) (n:=12) ω ω;have C:=lay (a:=(d % 8*64+f % 64)*64+g % 64) (b:=w % 64) (n:=6) ω ω;grind
  ·have hk:(mo y).1=0:=ω;rw[hk] at c;have e:ui y=((y.getD 0 0).toNat:Int):=by grind [ui,syn.start]
   have c:some (ui y)=some r:=c;grind [Dw]
def QP:Ok wQ:=okZ [wP] f89 Qfs QN Qfz
theorem JB (h:y≠[]):∃m:Nat,(jx y).2=m/\1<=m/\m<=y.length/\bb y=jx y::bb (y.drop m):=by
 grind [jx,ko,Dv,JA]
theorem QfA (y:By) (b:wR.pre y):Gf y:=by
 have b:y.length<=1000000:=b;unfold Gf;simp only[bI,fU,av,a7,bm];refine⟨⟨(y,[]),rfl,rfl,rfl,by simp⟩,λx d=>?_⟩;have⟨l,out⟩:=x;simp only at*
 refine⟨λh=>?_,λh=>?_⟩
 ·have a:l≠[]:=λe=>by grind
  have⟨m,c,m1,m2,e⟩:=JB a;refine⟨⟨trivial⟩,by grind,ω,ω,(l.drop m,out++[jx l]),?_,rfl,⟨?_,by grind⟩,by grind⟩
  ·rw[c];rfl
  ·grind
 ·obtain rfl:l=[]:=Zap ω;grind [bb,ig]
def QcE:Ok wR:=okZ [wQ] f69 Qfu QP QfA
def Bp (args:List (AV D.E)) (s:St D.E):C (List Rg):=match args with
 | [a]=>az (aU D s 6 a) λl=>.ret (l:List Rg)
 | _=>.fail
def QfB (args:List (AV D.E)) (s:St D.E):C (List Rg×Int):=match args with
 | [a,b]=>az (aU D s 6 a) λl=>aL (cA b) λ_ n=>.ret ((l:List Rg),n)
 | _=>.fail
def QcF (args:List (AV D.E)) (s:St D.E):C (List Rg×List Rg):=match args with
 | [a,b]=>az (aU D s 6 a) λl=>az (aU D s 6 b) λm=>.ret ((l:List Rg),(m:List Rg))
 | _=>.fail
def dr:br D:=bL 181 (List Rg) Bp (λy=>y.length<=100000000) (λy=>[.list 6 y]) λy=>.list 6 (aV y)
def at_ (l:List Rg) (i:Nat):Rg:=l.getD i (0,0)
def Gg:br D:=bL 225 (List Rg) Bp (λy=>y.length<=1000000) (λy=>[.list 6 y]) λy=>.list 6 (kQ y)
def QlB (y:Gg.Y):cO D:=⟨[],[],[(122,⟨Nat×List Rg×Int,[8,9],λx=>[(3,.grow 6 x.2.1 0),(4,.int .i32 x.2.2),(10,QsE x.1)],[],λ_=>[(0,.tok 6 242)],1,λx=>x.2.1++gW x.2.2 ((aV y).drop x.1)=gW 0 (aV y)/\x.1<=(aV y).length/\x.2.1.length=x.1,λx=>(aV y).length-x.1⟩)],[],1,[]⟩
def Dy:br D:=bL 205 (List Rg×List Rg) QcF (λ_=>True) (λy=>[.list 6 y.1,.list 6 y.2]) λy=>.bool (decide (y.1=y.2))
def QlD (y:Dy.Y):cO D:=⟨[(0,.fact 0)],[],[(58,⟨Nat,[0,1,12],λx=>[(13,QsE x)],[],λ_=>[],0,λx=>x<=y.1.length/\y.1.take x=y.2.take x,λx=>y.1.length-x⟩)],[],1,[]⟩
def Dz:br D:=bL 179 (List Rg) Bp (λy=>y.length<=100000000) (λy=>[.list 6 y]) λy=>.bool (decide (y=aV y))
def QlF (_:Dz.Y):cO D:=ew ()
def QfC:br D:=bL 221 (List Rg×Int) QfB (λ_=>True) (λy=>[.list 6 y.1,.int .i32 y.2]) λy=>.bool (bf y.1 y.2)
def tP:br D:={ QfC with f:=91 }
def QfD (y:tP.Y):cO D:=⟨[(0,.fact 0)],[],[(26,⟨Nat,[0,1],λx=>[(5,QsE x)],[],λ_=>[],0,λx=>x<=y.1.length/\bf y.1 y.2=bf (y.1.drop x) y.2,λx=>y.1.length-x⟩)],[],1,[]⟩
def JC (m:List Int):List Int:=m.mergeSort λa b=>decide (a<=b)
def bh (l:List Rg):List Int:=JC (cV l)
def gG:br D:=bL 218 (List Rg) Bp (λy=>y.length<=2000000) (λy=>[.list 6 y]) λy=>.list 14 (bh y)
def arI (b:Nat) (m:List Int):List (Nat×AO D.E):=[(b,.arr 14 m 21 false)]
def dC (l:List Rg) (i:Nat):List Int:=[0,55296,57344,1114112]++(l.take i).flatMap k_
def QfF (y:gG.Y):cO D:=⟨[],[1],[(58,⟨Nat,[0],λi=>[(3,.own 0 1 (ag (dC y i))),(4,QsE i)],[],λi=>arI 0 (dC y i),1,λi=>i<=y.length,λi=>y.length-i⟩),
 (122,⟨Nat×List Int,[],λx=>[(3,.own 0 1 (ag x.2)),(5,QsE x.1)],[],λx=>arI 0 x.2,1,λx=>1<=x.1/\x.1<=x.2.length/\x.2.Perm (cV y)/\Dc x.2 x.1,λx=>(cV y).length-x.1⟩)],
 [],1,[(7826,⟨Nat×List Int,λx=>⟨Nat×List Int,[5],λz=>[(3,.own 0 1 (ag z.2)),(6,QsE z.1)],[],λz=>arI 0 z.2,1,λz=>z.1<=x.1/\x.1<z.2.length/\z.2.Perm (cV y)/\oC z.2 z.1 x.1,λz=>z.1⟩,none⟩)]⟩
def arR (b:Nat) (m:List Rg):List (Nat×AO D.E):=[(b,.arr 6 m 242 false)]
def Xc (l:List Rg):Prop:=l.length<=100000000/\∀r∈l,-10<=r.2/\r.2<=1114111
def Gh:br D where
 f:=219
 Y:=List Rg×Int×Int
 ya:=λargs s=>match args with
  | [a,b,c]=>az (aU D s 6 a) λl=>aL (cA b) λ_ m=>aL (cA c) λ_ n=>.ret ((l:List Rg),m,n)
  | _=>.fail
 pre:=λy=>Xc y.1
 args:=λy=>[.own 0 2 (ag y.1),.int .i32 y.2.1,.int .i32 y.2.2]
 heap:=λy=>arR 0 y.1
 res:=λy=>.own 1 2 (ag (ch y.1 y.2.1 y.2.2))
 hZ:=λy=>arR 1 (ch y.1 y.2.1 y.2.2)
 nY:=1
 Ci:=2
def QlJ (_:Gh.Y):cO D:=ew ()
def QfH (y:List Rg) (c:Int->Bool):List (Nat×iG D):=[(122,⟨Nat,[0,3],λi=>[(4,.own 0 2 (ag (dp c (bh y) i))),(5,.int .i64 i)],[],λi=>arR 0 (dp c (bh y) i),1,λi=>i+1<=(bh y).length,λi=>(bh y).length-i⟩)]
def lg:br D:=bL 188 (List Rg) Bp (λy=>y.length<=2000000) (λy=>[.list 6 y]) λy=>.list 6 (aV y)
def QfI (y:lg.Y):cO D:=⟨[],[],QfH y (bf y),[],1,[]⟩
def oL:br D:=bL 213 (List Rg) Bp (λy=>y.length<=2000000) (λy=>[.list 6 y]) λy=>.list 6 (kQ y)
def QfK (y:oL.Y):cO D:=⟨[],[],QfH y (λr=>!bf y r),[],1,[]⟩
def wT:br D:={ Dz with f:=187,pre:=λy=>y.length<=2000000 }
def QfM (y:wT.Y):cO D:=⟨[],[],[(122,⟨Nat,[0,3],λi=>[(4,QsE i)],[],λ_=>[],0,λi=>i<=y.length/\(aV y).take i=y.take i,λi=>y.length-i⟩)],[],1,[]⟩
def QQ (y:List (Int×Int)):Prop:=let a:=aV y;Iv (y.length<=100000000)/\aa [y] ((∃z:Nat×(List (Int×Int))×Int,aa [a] (aa [ag a] ([]=z.2.1/\0=z.2.2/\0=(z.1:Int)/\(Iv ((z.2.1++gW z.2.2 (List.drop z.1 a))=gW 0 a/\z.1<=a.length/\z.2.1.length=z.1)))))/\(∀x:Nat×(List (Int×Int))×Int,let q1:=a.length;let b:=(x.1:Int);let d:=gt (0,0) a b.toNat;let c:=bC x.2.1 [(x.2.2,1114111)];let e:=bC x.2.1 [(x.2.2,cF .i32 d.1 1)];(Iv ((x.2.1++gW x.2.2 (List.drop x.1 a))=gW 0 a/\x.1<=q1/\x.2.1.length=x.1))->ak (ay b (ag a)) (aH 0 b/\ay b (ag a)/\bx (ag e) 8/\∃z:Nat×(List (Int×Int))×Int,aa [a] (aa [ag a] (e=z.2.1/\aw .i32 d.2 1=z.2.2/\aw .i64 b 1=(z.1:Int)/\(Iv (((z.2.1++gW z.2.2 (List.drop z.1 a))=gW 0 a/\z.1<=q1/\z.2.1.length=z.1)/\(q1-z.1)<(q1-x.1)))))) (bx (ag c) 8/\Iv (c.length<=100000000)/\aa [c] (aV c=kQ y/\True))))
def QR (y:(List (Int×Int))×(List (Int×Int))):Prop:=let a:=ag y.1;let q1:=y.1.length;let e:=!(aC a (ag y.2));let d:=decide (y.1=y.2);(aH a 9223372036854775807)->ak e (false=d/\True) ((∃z:Nat,aa [y.1,y.2] (aa [a] (0=(z:Int)/\(Iv (z<=q1/\List.take z y.1=List.take z y.2)))))/\(∀x:Nat,let b:=gt (0,0) y.1 (x:Int).toNat;let c:=gt (0,0) y.2 (x:Int).toNat;let f:=!((aC b.1 c.1)&&(aC b.2 c.2));(Iv (x<=q1/\List.take x y.1=List.take x y.2))->ak (ay (x:Int) a) (aH 0 (x:Int)/\ay (x:Int) a/\aH 0 (x:Int)/\ay (x:Int) (ag y.2)/\aa [b.1,b.2,c.1,c.2] (ak f (false=d/\True) (∃z:Nat,aa [y.1,y.2] (aa [a] (aw .i64 (x:Int) 1=(z:Int)/\(Iv ((z<=q1/\List.take z y.1=List.take z y.2)/\(q1-z)<(q1-x)))))))) (true=d/\True)))
def QT (y:List (Int×Int)):Prop:=let a:=decide (y=aV y);Iv (y.length<=100000000)/\aa [y] (Iv True/\aa [y] (aa [aV y] (aa [a] (True))))
def QU (y:(List (Int×Int))×Int):Prop:=let a:=y.1.length;let q1:=ag y.1;let b:=bf y.1 y.2;let e:=λp:Prop=>aa [y.2] (aa [y.1] (aa [q1] p));(aH q1 9223372036854775807)->(∃z:Nat,e (0=(z:Int)/\(Iv (z<=a/\b=bf (List.drop z y.1) y.2))))/\(∀x:Nat,let c:=gt (0,0) y.1 (x:Int).toNat;let d:Prop:=(∃z:Nat,e (aw .i64 (x:Int) 1=(z:Int)/\(Iv ((z<=a/\b=bf (List.drop z y.1) y.2)/\(a-z)<(a-x)))));(Iv (x<=a/\b=bf (List.drop x y.1) y.2))->ak (ay (x:Int) q1) (aH 0 (x:Int)/\ay (x:Int) q1/\ak (aH c.1 y.2) (ak (aH y.2 c.2) (true=b/\True) (d)) (d)) (false=b/\True))
def Gi (y:(List (Int×Int))×Int):Prop:=let a:=y.1.length;let q1:=ag y.1;let b:=bf y.1 y.2;let e:=λp:Prop=>aa [y.1] (aa [y.2] p);(aH q1 9223372036854775807)->(∃z:Nat,e (0=(z:Int)/\(Iv (z<=a/\b=bf (List.drop z y.1) y.2))))/\(∀x:Nat,let c:=gt (0,0) y.1 (x:Int).toNat;let d:Prop:=(∃z:Nat,e (aw .i64 (x:Int) 1=(z:Int)/\(Iv ((z<=a/\b=bf (List.drop z y.1) y.2)/\(a-z)<(a-x)))));(Iv (x<=a/\b=bf (List.drop x y.1) y.2))->ak (ay (x:Int) q1) (aH 0 (x:Int)/\ay (x:Int) q1/\ak (aH c.1 y.2) (aH 0 (x:Int)/\ay (x:Int) q1/\ak (aH y.2 c.2) (true=b/\True) (d)) (d)) (false=b/\True))
def Gj (y:List (Int×Int)):Prop:=let v:=(cV y).length;let q1:=y.length;let f:=ag y;let s:=λp:Prop=>aa [y] p;(∃z:Nat,s (ag [0,55296,57344,1114112]=ag (dC y z)/\0=(z:Int)/\[0,55296,57344,1114112]=dC y z/\(Iv (z<=q1))))/\(∀x:Nat,let n:=dC y x;let a:=gt (0,0) y (x:Int).toNat;let r:=bC n [a.1];let t:=([aw .i32 a.2 1]:List Int);let w:=ag (bC n t);let A:=ag (bC r t);let o:=λp:Prop=>aa [a.1,a.2] p;let k:Prop:=(∃z:Nat,s (ag n=ag (dC y z)/\aw .i64 (x:Int) 1=(z:Int)/\n=dC y z/\(Iv (z<=q1/\(q1-z)<(q1-x)))));let l:Prop:=(∃z:Nat,s (ag r=ag (dC y z)/\aw .i64 (x:Int) 1=(z:Int)/\r=dC y z/\(Iv (z<=q1/\(q1-z)<(q1-x)))));let m:Prop:=(aH 0 (x:Int)/\ay (x:Int) f/\aH 0 (x:Int)/\ay (x:Int) f/\ak (aH a.1 a.2) (aH 0 (x:Int)/\ay (x:Int) f/\ak (aH 0 a.2) (aH 0 (x:Int)/\ay (x:Int) f/\aa [a.1,a.2,a.2,a.2] (ak (ay a.2 1114111) (aH 0 (x:Int)/\ay (x:Int) f/\bx w 4/\∃z:Nat,s (w=ag (dC y z)/\aw .i64 (x:Int) 1=(z:Int)/\bC n t=dC y z/\(Iv (z<=q1/\(q1-z)<(q1-x))))) (k))) (aa [a.1,a.2,a.2] (k))) (o (k)));(Iv (x<=q1))->ak (ay (x:Int) f) (aH 0 (x:Int)/\ay (x:Int) f/\aH 0 (x:Int)/\ay (x:Int) f/\ak (aH a.1 a.2) (aH 0 (x:Int)/\ay (x:Int) f/\ak (aH 0 a.1) (aH 0 (x:Int)/\ay (x:Int) f/\aa [a.1,a.2,a.1,a.1] (ak (aH a.1 1114111) (aH 0 (x:Int)/\ay (x:Int) f/\bx (ag r) 4/\aH 0 (x:Int)/\ay (x:Int) f/\aH 0 (x:Int)/\ay (x:Int) f/\ak (aH a.1 a.2) (aH 0 (x:Int)/\ay (x:Int) f/\ak (aH 0 a.2) (aH 0 (x:Int)/\ay (x:Int) f/\aa [a.1,a.2,a.2,a.2] (ak (ay a.2 1114111) (aH 0 (x:Int)/\ay (x:Int) f/\bx A 4/\∃z:Nat,s (A=ag (dC y z)/\aw .i64 (x:Int) 1=(z:Int)/\bC r t=dC y z/\(Iv (z<=q1/\(q1-z)<(q1-x))))) (l))) (aa [a.1,a.2,a.2] (l))) (o (l))) (m))) (aa [a.1,a.2,a.1] (m))) (o (m))) ((∃z:Nat×(List Int),ag n=ag z.2/\1=(z.1:Int)/\n=z.2/\(Iv (1<=z.1/\z.1<=z.2.length/\List.Perm z.2 (cV y)/\Dc z.2 z.1)))/\(∀g:Nat×(List Int),let h:=(g.1:Int);let u:=ay h (ag g.2);(Iv (1<=g.1/\g.1<=g.2.length/\List.Perm g.2 (cV y)/\Dc g.2 g.1))->ak u (∃z:Nat×(List Int),(∃b:Nat×(List Int),aa [h] (ag g.2=ag b.2/\h=(b.1:Int)/\g.2=b.2/\(Iv (b.1<=z.1/\z.1<b.2.length/\List.Perm b.2 (cV y)/\oC b.2 b.1 z.1))))/\(∀e:Nat×(List Int),let c:=(e.1:Int);let d:=cF .i64 c 1;let i:=gt 0 e.2 c.toNat;let j:=gt 0 e.2 d.toNat;let q:Prop:=(∃b:Nat×(List Int),ag e.2=ag b.2/\aw .i64 h 1=(b.1:Int)/\e.2=b.2/\(Iv ((1<=b.1/\b.1<=b.2.length/\List.Perm b.2 (cV y)/\Dc b.2 b.1)/\(v-b.1)<(v-g.1))));(Iv (e.1<=z.1/\z.1<e.2.length/\List.Perm e.2 (cV y)/\oC e.2 e.1 z.1))->ak (ay 0 c) (aH 0 d/\ay d (ag e.2)/\aH 0 c/\ay c (ag e.2)/\aa [j,i] (ak (ay i j) (aH 0 c/\ay c (ag e.2)/\aH 0 d/\ay d (ag e.2)/\aH 0 d/\ay d (ag e.2)/\aH 0 c/\ay c (ag e.2)/\aa [i,j] (∃b:Nat×(List Int),aa [h] (ag e.2=ag b.2/\d=(b.1:Int)/\cC (cC e.2 d.toNat i) c.toNat j=b.2/\(Iv ((b.1<=z.1/\z.1<b.2.length/\List.Perm b.2 (cV y)/\oC b.2 b.1 z.1)/\b.1<e.1))))) (q))) (q))) (g.2=bh y/\True))))
def QX (y:(List (Int×Int))×Int×Int):Prop:=let a:=ag y.1;let q1:=cF .i64 a 1;let b:=ch y.1 y.2.1 y.2.2;let c:=bC y.1 [(y.2.1,y.2.2)];let d:=gt (0,0) y.1 q1.toNat;let f:=aC (aw .i32 d.2 1) y.2.1;let e:Prop:=(bx (ag c) 8/\ag c=ag b/\c=b/\True);ak (ay 0 a) (aH 0 q1/\ay q1 a/\ak f (aH 0 q1/\ay q1 a/\a=ag b/\cC y.1 q1.toNat (d.1,y.2.2)=b/\True) (e)) (e)
def Gk (y:List (Int×Int)):Prop:=let e:=bh y;let q1:=e.length;let d:=ag e;let m:=λp:Prop=>aa [y] (aa [e] p);Iv (y.length<=2000000)/\aa [y] ((∃z:Nat,let n:=dp (bf y) e z;m (0=ag n/\0=(z:Int)/\[]=n/\(Iv ((z+1)<=q1))))/\(∀x:Nat,let b:=dp (bf y) e x;let c:=aw .i64 (x:Int) 1;let a:=gt 0 e (x:Int).toNat;let g:=gt 0 e c.toNat;let h:=cF .i32 g 1;let f:Prop:=(∃z:Nat,let i:=dp (bf y) e z;m (ag b=ag i/\c=(z:Int)/\b=i/\(Iv ((z+1)<=q1/\(q1-z)<(q1-x)))));let o:Prop:=(aa [a,a] (ak (bf y a) (aH 0 (x:Int)/\ay (x:Int) d/\aH 0 c/\ay c d/\Iv (Xc b)/\aa [ag b,a,h] (aa [b] (aa [a,g] (∃z:Nat,let j:=dp (bf y) e z;m (ag (ch b a h)=ag j/\c=(z:Int)/\ch b a h=j/\(Iv ((z+1)<=q1/\(q1-z)<(q1-x)))))))) (f)));(Iv ((x+1)<=q1))->ak (ay c d) (aH 0 (x:Int)/\ay (x:Int) d/\aH 0 c/\ay c d/\ak (ay a g) (aH 0 (x:Int)/\ay (x:Int) d/\ak (ay a 55296) (aH 0 (x:Int)/\ay (x:Int) d/\Iv True/\aa [y] (aa [a,a,g,a,a] (ak (bf y a) (aH 0 (x:Int)/\ay (x:Int) d/\aH 0 c/\ay c d/\Iv (Xc b)/\aa [ag b,a,h] (aa [b] (aa [a,g] (∃z:Nat,let k:=dp (bf y) e z;m (ag (ch b a h)=ag k/\c=(z:Int)/\ch b a h=k/\(Iv ((z+1)<=q1/\(q1-z)<(q1-x)))))))) (f)))) (aH 0 (x:Int)/\ay (x:Int) d/\ak (ay 57343 a) (aH 0 (x:Int)/\ay (x:Int) d/\Iv True/\aa [y] (aa [a,a,g,a,a,a] (ak (bf y a) (aH 0 (x:Int)/\ay (x:Int) d/\aH 0 c/\ay c d/\Iv (Xc b)/\aa [ag b,a,h] (aa [b] (aa [a,g] (∃z:Nat,let l:=dp (bf y) e z;m (ag (ch b a h)=ag l/\c=(z:Int)/\ch b a h=l/\(Iv ((z+1)<=q1/\(q1-z)<(q1-x)))))))) (f)))) (aa [a,g,a,a] (f)))) (aa [a,g] (f))) (b=aV y/\True)))
def Gl (y:List (Int×Int)):Prop:=let e:=bh y;let q1:=e.length;let d:=ag e;let m:=λp:Prop=>aa [y] (aa [e] p);Iv (y.length<=2000000)/\aa [y] ((∃z:Nat,let n:=dp (λ(r:Int)=>!(bf y r)) e z;m (0=ag n/\0=(z:Int)/\[]=n/\(Iv ((z+1)<=q1))))/\(∀x:Nat,let b:=dp (λ(r:Int)=>!(bf y r)) e x;let c:=aw .i64 (x:Int) 1;let a:=gt 0 e (x:Int).toNat;let g:=gt 0 e c.toNat;let h:=cF .i32 g 1;let f:Prop:=(∃z:Nat,let i:=dp (λ(r:Int)=>!(bf y r)) e z;m (ag b=ag i/\c=(z:Int)/\b=i/\(Iv ((z+1)<=q1/\(q1-z)<(q1-x)))));let o:Prop:=(aa [a,a] (ak (!(bf y a)) (aH 0 (x:Int)/\ay (x:Int) d/\aH 0 c/\ay c d/\Iv (Xc b)/\aa [ag b,a,h] (aa [b] (aa [a,g] (∃z:Nat,let j:=dp (λ(r:Int)=>!(bf y r)) e z;m (ag (ch b a h)=ag j/\c=(z:Int)/\ch b a h=j/\(Iv ((z+1)<=q1/\(q1-z)<(q1-x)))))))) (f)));(Iv ((x+1)<=q1))->ak (ay c d) (aH 0 (x:Int)/\ay (x:Int) d/\aH 0 c/\ay c d/\ak (ay a g) (aH 0 (x:Int)/\ay (x:Int) d/\ak (ay a 55296) (aH 0 (x:Int)/\ay (x:Int) d/\Iv True/\aa [y] (aa [a,a,g,a,a] (ak (!(bf y a)) (aH 0 (x:Int)/\ay (x:Int) d/\aH 0 c/\ay c d/\Iv (Xc b)/\aa [ag b,a,h] (aa [b] (aa [a,g] (∃z:Nat,let k:=dp (λ(r:Int)=>!(bf y r)) e z;m (ag (ch b a h)=ag k/\c=(z:Int)/\ch b a h=k/\(Iv ((z+1)<=q1/\(q1-z)<(q1-x)))))))) (f)))) (aH 0 (x:Int)/\ay (x:Int) d/\ak (ay 57343 a) (aH 0 (x:Int)/\ay (x:Int) d/\Iv True/\aa [y] (aa [a,a,g,a,a,a] (ak (!(bf y a)) (aH 0 (x:Int)/\ay (x:Int) d/\aH 0 c/\ay c d/\Iv (Xc b)/\aa [ag b,a,h] (aa [b] (aa [a,g] (∃z:Nat,let l:=dp (λ(r:Int)=>!(bf y r)) e z;m (ag (ch b a h)=ag l/\c=(z:Int)/\ch b a h=l/\(Iv ((z+1)<=q1/\(q1-z)<(q1-x)))))))) (f)))) (aa [a,g,a,a] (f)))) (aa [a,g] (f))) (b=kQ y/\True)))
def Gm (y:List (Int×Int)):Prop:=let a:=aV y;let q1:=y.length;let f:=!(aC (ag a) (ag y));let d:Prop:=(false=decide (y=a)/\True);Iv (q1<=2000000)/\aa [y] (ak f (d) ((∃z:Nat,aa [y] (aa [a] (0=(z:Int)/\(Iv (z<=q1/\List.take z a=List.take z y)))))/\(∀x:Nat,let e:=ay (x:Int) (ag y);let b:=gt (0,0) y (x:Int).toNat;let c:=gt (0,0) a (x:Int).toNat;let g:=!((aC c.1 b.1)&&(aC c.2 b.2));(Iv (x<=q1/\List.take x a=List.take x y))->ak e (aH 0 (x:Int)/\ay (x:Int) (ag a)/\aH 0 (x:Int)/\e/\aa [c.1,c.2,b.1,b.2] (ak g (d) (∃z:Nat,aa [y] (aa [a] (aw .i64 (x:Int) 1=(z:Int)/\(Iv ((z<=q1/\List.take z a=List.take z y)/\(q1-z)<(q1-x)))))))) (true=decide (y=a)/\True))))
def QcG (h:i<l.length) (r:Int):bf (l.drop i) r=((decide ((l.getD i (0,0)).1<=r)&&decide (r<=(l.getD i (0,0)).2))||bf (l.drop (i+1)) r):=PE (getD_eq h (0,0)) r
theorem QlL (y:List Rg×Int) (a:QfC.pre y):QU y:=by
 have⟨l,r⟩:=y;unfold QU;simp only[bI,fU,av,gt,Zad];intro hl;refine⟨⟨0,rfl,Zaj _,rfl⟩,λi hi=>?_⟩;have⟨h1,b⟩:=hi.out;rw[b];refine⟨λh=>⟨ω,h,?_⟩,λh=>?_⟩
 ·rw[QcG (show i<l.length by omega)];grind
 ·rw[Zbu ω];rfl
theorem QfO (y:List Rg×Int) (a:tP.pre y):Gi y:=by
 have hs:=QlL y a;unfold Gi;unfold QU at hs;simp only[bI,fU,av,gt,Zad] at hs ⊢;grind
def Gn:Ok tP:=okZ [] f91 QfD trivial QfO
theorem zH {α:Type} {a b:List α} (d:α) (c:i<a.length) (f:i<b.length) (h:a.take i=b.take i) (e:a.getD i d=b.getD i d):a.take (i+1)=b.take (i+1):=by
 grind [List.take_succ]
theorem QlM (y:List Rg×List Rg) (a:Dy.pre y):QR y:=by
 unfold QR;simp only[bI,fU,av,gt,Zad,Zan,Zao,ZaW,Zbz];grind [zH]
def Qan:Ok Dy:=okZ [] f205 QlD trivial QlM
def QlN (y:List Rg) (a:Dz.pre y):QT y:=by
 unfold QT;simp only[fU];exact⟨⟨a⟩,⟨trivial⟩⟩
def Qao (h:Ok dr):Ok Dz:=okZ [dr,Dy] f179 QlF ⟨h,Qan⟩ QlN
def Xh (h:i<(aV l).length):tF ((aV l).getD i (0,0)):=(dI l).1.1 _ (ZaJ (getD_eq h (0,0)))
def Q3 (l:List Rg):(aV l).length<=2*l.length:=(dI l).2.2
theorem QlO (y:List Rg) (a:Gg.pre y):QQ y:=by
 have a:y.length<=1000000:=a;have f:=Q3 y;unfold QQ;simp only[bI,fU,av,a7,bm,gt,Zad];refine⟨⟨ω⟩,⟨(0,[],0),rfl,rfl,rfl,rfl,Zaj _,rfl⟩,λx c=>?_⟩;have⟨i,out,nx⟩:=x;have⟨h1,d,e⟩:=c.out;simp only at*
 refine⟨λh=>?_,λh=>?_⟩
 ·have⟨g1,g2,g3,_⟩:=Xh (l:=y) (i:=i) ω;have b:cF .i32 ((aV y).getD i (0,0)).1 1=((aV y).getD i (0,0)).1-1:=dw (cE.2 ⟨by show(-2147483648:Int)<=_;omega,by show _<=(2147483647:Int);omega⟩);have e2:aw .i32 ((aV y).getD i (0,0)).2 1=((aV y).getD i (0,0)).2+1:=dw (cE.2 ⟨by show(-2147483648:Int)<=_;omega,by show _<=(2147483647:Int);omega⟩);refine⟨ω,h,by simp;omega,(i+1,out++[(nx,((aV y).getD i (0,0)).1-1)],((aV y).getD i (0,0)).2+1),by rw[b],e2,ba ω ω,⟨?_,ω,by grind⟩,ω⟩;grind [List.drop_eq_getElem_cons,gW]
 ·rw[Zbu ω] at h1;have h1:out++[(nx,1114111)]=gW 0 (aV y):=h1;rw[h1];have:=zl 0 (aV y);exact⟨ω,⟨ω⟩,rfl⟩
def Qap (h:Ok dr):Ok Gg:=okZ [dr] f225 QlB h QlO
theorem QlP (y:List Rg×Int×Int) (d:Gh.pre y):QX y:=by
 have⟨l,lo,hi⟩:=y;obtain⟨h1,c⟩:Xc l:=d;unfold QX;simp only[bI,lF,Zai,av,a7,bm,gt];have a:(((l++[(lo,hi)]).length:Nat):Int)*((8:Nat):Int)<=140737488355328:=by grind
 rcases Zcu l with rfl | ⟨m,p,rfl⟩
 ·exact⟨λh=>absurd h (by simp),λ_=>⟨a,rfl,rfl⟩⟩
 ·simp only[Zcv] at*
  have e:=c p (by simp);have b:cF .i64 ((m++[p]).length:Int) 1=m.length:=by grind
  rw[b,Zad];have e2:aw .i32 p.2 1=p.2+1:=dw (cE.2 ⟨by show(-2147483648:Int)<=_;omega,by show _<=(2147483647:Int);omega⟩);grind [ch,cC]
def Qaq:Ok Gh:=okZ [] f219 QlJ trivial QlP
def DA {a b:List Int} (h:a.Perm b) (c:a.Pairwise (· <= ·)) (d:b.Pairwise (· <= ·)):a=b:=List.Perm.eq_of_pairwise (le:=λx y=>x<=y) (λ_ _ _ _ h1 e=>ω) c d h
def Gp (m:List Int):(JC m).Perm m:=List.mergeSort_perm m _
theorem Bq (m:List Int):(JC m).Pairwise (· <= ·):=by
 grind [List.pairwise_mergeSort,JC]
theorem fV (y:List Rg):(bh y).Perm (cV y):=Gp _
theorem jb (y:List Rg):(bh y).Pairwise (· <= ·):=Bq _
theorem qz (y:List Rg):4<=(bh y).length/\(bh y).length<=4+2*y.length:=by
 rw[(fV y).length_eq];unfold cV;have:=fg k_ 2 sO y;grind
def DB {y:List Rg} (h:i<(bh y).length):0<=(bh y).getD i 0/\(bh y).getD i 0<=1114112:=lZ _ ((fV y).mem_iff.1 (ZaJ (getD_eq h 0)))
theorem L_ (y:List Rg):dp (bf y) (bh y) ((bh y).length-1)=aV y:=by
 grind [Df,fV,jb,zn,Dg]
theorem Q4 (y:List Rg):dp (λr=>!bf y r) (bh y) ((bh y).length-1)=kQ y:=by
 have hs:Jq (λr=>!bf y r) (bh y):=λk hk r h1 a=>by
  have:=zn (fV y) (jb y) k hk r h1 a;grind
 grind [Df,fV,jb,WO]
def JD (b:l.length<=2000000) (c:Int->Bool) (h:i+1<=(bh l).length):Xc (dp c (bh l) i):=by
 have:=PN c (bh l) i;have hl:=qz l;refine⟨ω,WN (λx a=>?_) i h⟩;exact lZ _ ((fV l).mem_iff.1 a)
theorem JE (c:Int->Bool) (m:List Int) (i:Nat):dp c m (i+1)=if m.getD i 0<m.getD (i+1) 0/\(m.getD i 0<55296\/57343<m.getD i 0)/\c (m.getD i 0)=true then ch (dp c m i) (m.getD i 0) (m.getD (i+1) 0-1) else dp c m i:=by
 show(if PM c m i=true then _ else _)=_
 grind [PM]
theorem QfP (y:List Rg) (c:lg.pre y):Gk y:=by
 have c:y.length<=2000000:=c;have hl:=qz y;unfold Gk;simp only[bI,fU,av,gt,Zad];refine⟨⟨c⟩,⟨0,rfl,rfl,rfl,⟨ω⟩⟩,λi hi=>?_⟩;have hi:=hi.out;have j:aw .i64 (i:Int) 1=((i+1:Nat):Int):=ba ω ω;rw[j,Zad];refine⟨λh=>?_,λh=>?_⟩
 ·have⟨b1,l⟩:=DB (y:=y) (i:=i+1) ω;have k:=JE (bf y) (bh y) i;have e2:cF .i32 ((bh y).getD (i+1) 0) 1=(bh y).getD (i+1) 0-1:=dw (cE.2 ⟨by show(-2147483648:Int)<=_;omega,by show _<=(2147483647:Int);omega⟩);have g:=JD c (bf y) hi;rw[e2];generalize (bh y).getD i 0=A at*
  generalize (bh y).getD (i+1) 0=B at*
  have go:A<B/\(A<55296\/57343<A)/\bf y A->∃z:Nat,((ch (dp (bf y) (bh y) i) A (B-1)).length:Int)=((dp (bf y) (bh y) z).length:Int)/\((i+1:Nat):Int)=(z:Int)/\ch (dp (bf y) (bh y) i) A (B-1)=dp (bf y) (bh y) z/\Iv (z+1<=(bh y).length/\(bh y).length-z<(bh y).length-i):=λa=>by
   grind
  have no:¬(A<B/\(A<55296\/57343<A)/\bf y A)->∃z:Nat,((dp (bf y) (bh y) i).length:Int)=((dp (bf y) (bh y) z).length:Int)/\((i+1:Nat):Int)=(z:Int)/\dp (bf y) (bh y) i=dp (bf y) (bh y) z/\Iv (z+1<=(bh y).length/\(bh y).length-z<(bh y).length-i):=λa=>by
   rw[Zaa a] at k;grind
  refine⟨ω,ω,ω,h,λd=>⟨ω,ω,λe=>⟨ω,ω,⟨trivial⟩,λb=>⟨ω,ω,ω,h,⟨g⟩,go ⟨d,.inl e,b⟩⟩,λb=>no λa=>by grind⟩,λe=>⟨ω,ω,λf=>⟨ω,ω,⟨trivial⟩,λb=>⟨ω,ω,ω,h,⟨g⟩,go ⟨d,.inr f,b⟩⟩,λb=>no λa=>by grind⟩,λf=>no λa=>ω⟩⟩,λd=>no λa=>ω⟩
 ·grind [L_]
def Gq (h:Ok gG):Ok lg:=okZ [gG,tP,Gh] f188 QfI ⟨h,Gn,Qaq⟩ QfP
theorem QfQ (y:List Rg) (b:oL.pre y):Gl y:=by
 have b:y.length<=2000000:=b;have hl:=qz y;unfold Gl;simp only[bI,fU,Zan,Zao,av,gt,Zad];refine⟨⟨b⟩,⟨0,rfl,rfl,rfl,⟨ω⟩⟩,λi hi=>?_⟩;have hi:=hi.out;have j:aw .i64 (i:Int) 1=((i+1:Nat):Int):=ba ω ω;rw[j,Zad];refine⟨λh=>?_,λh=>?_⟩
 ·have⟨b1,l⟩:=DB (y:=y) (i:=i+1) ω;have k:=JE (λr=>!bf y r) (bh y) i;have e2:cF .i32 ((bh y).getD (i+1) 0) 1=(bh y).getD (i+1) 0-1:=dw (cE.2 ⟨by show(-2147483648:Int)<=_;omega,by show _<=(2147483647:Int);omega⟩);have g:=JD b (λr=>!bf y r) hi;rw[e2];generalize (bh y).getD i 0=A at*
  generalize (bh y).getD (i+1) 0=B at*
  have go:A<B/\(A<55296\/57343<A)/\(!bf y A)->∃z:Nat,((ch (dp (λr=>!bf y r) (bh y) i) A (B-1)).length:Int)=((dp (λr=>!bf y r) (bh y) z).length:Int)/\((i+1:Nat):Int)=(z:Int)/\ch (dp (λr=>!bf y r) (bh y) i) A (B-1)=dp (λr=>!bf y r) (bh y) z/\Iv (z+1<=(bh y).length/\(bh y).length-z<(bh y).length-i):=λa=>by
   grind
  have no:¬(A<B/\(A<55296\/57343<A)/\(!bf y A))->∃z:Nat,((dp (λr=>!bf y r) (bh y) i).length:Int)=((dp (λr=>!bf y r) (bh y) z).length:Int)/\((i+1:Nat):Int)=(z:Int)/\dp (λr=>!bf y r) (bh y) i=dp (λr=>!bf y r) (bh y) z/\Iv (z+1<=(bh y).length/\(bh y).length-z<(bh y).length-i):=λa=>by
   rw[Zaa a] at k;grind
  refine⟨ω,ω,ω,h,λc=>⟨ω,ω,λe=>⟨ω,ω,⟨trivial⟩,λd=>⟨ω,ω,ω,h,⟨g⟩,go ⟨c,.inl e,by grind⟩⟩,λd=>no λa=>by grind⟩,λe=>⟨ω,ω,λf=>⟨ω,ω,⟨trivial⟩,λd=>⟨ω,ω,ω,h,⟨g⟩,go ⟨c,.inr f,by grind⟩⟩,λd=>no λa=>by grind⟩,λf=>no λa=>ω⟩⟩,λc=>no λa=>ω⟩
 ·grind [Q4]
def QcH (h:Ok gG):Ok oL:=okZ [gG,tP,Gh] f213 QfK ⟨h,Gn,Qaq⟩ QfQ
theorem QfR (y:List Rg) (a:wT.pre y):Gm y:=by
 have a:y.length<=2000000:=a;unfold Gm;simp only[bI,fU,av,gt,Zad,Zan,Zao,ZaW,Zbz];grind [zH]
def Q5 (h:Ok gG):Ok wT:=okZ [lg] f187 QfM (Gq h) QfR
theorem Gs {y:List Rg} (h:i<=y.length):(dC y i).length<=4+2*y.length:=by
 unfold dC;have:=fg k_ 2 sO (y.take i);grind
theorem DC {y:List Rg} (h:i<y.length):dC y (i+1)=dC y i++k_ (y.getD i (0,0)):=by
 grind [dC,List.take_succ]
theorem QfS (y:List Rg) (n:gG.pre y):Gj y:=by
  have n:y.length<=2000000:=n;unfold Gj;simp only[bI,fU,av,a7,bm,gt,Zad];refine⟨⟨0,by rfl,rfl,by rfl,⟨Zaj _⟩⟩,λi hi=>⟨λh=>?_,λh=>⟨⟨(1,dC y i),rfl,rfl,rfl,Zah _,?_,?_,?_⟩,λx s=>⟨λg=>⟨(x.1,x.2),⟨(x.1,x.2),rfl,rfl,rfl,?_⟩,λz hz=>?_⟩,λg=>?_⟩⟩⟩⟩
  · have hs:=DC (y:=y) (i:=i) ω;have hl:=Gs (y:=y) (i:=i) ω;have fin:∀L:List Int,L=dC y i++k_ (y.getD i (0,0))->∃z:Nat,(L.length:Int)=((dC y z).length:Int)/\aw .i64 (i:Int) 1=(z:Int)/\L=dC y z/\Iv (z<=y.length/\y.length-z<y.length-i):=λL v=>by
      grind
    generalize y.getD i (0,0)=A at*
    have⟨lo,c⟩:=A;have e:0<=c->c<1114111->aw .i32 c 1=c+1:=λa b=>dw (cE.2 ⟨by show(-2147483648:Int)<=_;omega,by show _<=(2147483647:Int);omega⟩)
    have F:∀(a b:Bool),m1 (lo,c)=a->m2 (lo,c)=b->k_ (lo,c)=(if a=true then[lo] else[])++(if b=true then[c+1] else[]):=λa b f e2=>by grind [k_]
    repeat' first | (intro _) | (apply And.intro)
    all_goals first
      | omega
      | (simp only[Zab,Zae,Zak];omega)
      | (refine fin _ ?_
         first
           | (rw[F true true (by simp[m1];omega) (by simp[m2];omega),e ω ω];simp;done)
           | (rw[F true false (by simp[m1];omega) (by simp[m2];omega)];simp;done)
           | (rw[F false true (by simp[m1];omega) (by simp[m2];omega),e ω ω];simp;done)
           | (rw[F false false (by simp[m1];omega) (by simp[m2];omega)];simp;done))
  · grind [dC]
  · grind [dC,cV]
  · intro a b h1 g;omega
  · grind [Bh]
  · have⟨i2,m⟩:=x;have⟨k,d⟩:=z;have⟨g1,g2,g3,g4⟩:=hz.out;have r:d.length=(cV y).length:=g3.length_eq;have q:(cV y).length<=4000004:=by
      have:=fg k_ 2 sO y;unfold cV;grind
    simp only at*
    have out:(k=0\/d.getD (k-1) 0<=d.getD k 0)->∃z:Nat×List Int,(d.length:Int)=(z.2.length:Int)/\aw .i64 (i2:Int) 1=(z.1:Int)/\d=z.2/\Iv ((1<=z.1/\z.1<=z.2.length/\z.2.Perm (cV y)/\Dc z.2 z.1)/\(cV y).length-z.1<(cV y).length-i2):=λhk=>
      ⟨(i2+1,d),rfl,ba ω ω,rfl,⟨ω,by assumption,g3,FQ g4 hk⟩,ω⟩
    refine⟨λp=>?_,λp=>out (.inl ω)⟩;have f:cF .i64 (k:Int) 1=((k-1:Nat):Int):=by grind
    rw[f,Zad];refine⟨ω,ω,ω,ω,λl=>⟨ω,ω,ω,ω,ω,ω,ω,ω,(k-1,swap d (k-1)),?_,rfl,?_,⟨ω,?_,(swap_perm d (k-1) ω).trans g3,?_⟩,ω⟩,λl=>out (.inr l)⟩
    · rw[Da]
    · grind [swap,cC]
    · grind [Da]
    · grind [Dd]
  · have⟨t,u,o,j⟩:=s.out;have:x.1=x.2.length:=ω;rw[this] at j;exact DA (o.trans (fV y).symm) (PL j) (jb y)
def sT:Ok gG:=okZ [] f218 QfF trivial QfS
def cX:aS:=⟨0,0,0,[]⟩
def gQ (n m:Int):Bool:=decide (0<=n)&&decide (n<m)
def Q6:br D:=bL 171 (Int×Int) (λa _=>match a with
 | [n,m]=>aL (cA n) λ_ n=>aL (cA m) λ_ m=>.ret (n,m)
 | _=>.fail) (λ_=>True) (λy=>[QsE y.1,QsE y.2]) λy=>.bool (gQ y.1 y.2)
def Gu (p:eu) (i:Int):Bool:=
 let x:=p.ab.getD i.toNat cX
 let behind:=decide (i+1<p.ab.length)
 if x.op≠1/\0<x.bg.length\/x.op≠2/\x.y≠0 then false
 else if x.op=1 then behind&&decide (x.x=0)&&decide (x.bg=aV x.bg)
 else if x.op=2 then gQ x.x p.ab.length&&gQ x.y p.ab.length
 else if x.op=3 then gQ x.x p.ab.length
 else if x.op=4 then behind&&gQ x.x 10
 else if x.op=5\/x.op=6 then behind&&decide (x.x=0)
 else if x.op=7 then gQ x.x p.aj.length
 else false
def Xi (y:eu×Int):Prop:=0<=y.2/\y.2<y.1.ab.length/\y.1.ab.length<=1000/\∀x∈y.1.ab,x.bg.length<=1000000
def Xj:br D:=bL 170 (eu×Int) (λa s=>match a with
 | [p,i]=>az (sS p s) λp=>aL (cA i) λ_ i=>.ret (p,i)
 | _=>.fail) Xi (λy=>[yc y.1,QsE y.2]) λy=>.bool (Gu y.1 y.2)
def Q7 (y:Int×Int):Prop:=ak (aH 0 y.1) (ay y.1 y.2=gQ y.1 y.2/\True) (false=gQ y.1 y.2/\True)
def Q8 (y:eu×Int):Prop:=let h:=ag y.1.aj;let q1:=ag y.1.ab;let b:=Gu y.1 y.2;let g:=ay (aw .i64 y.2 1) q1;let a:=gt (aS.mk 0 0 0 []) y.1.ab y.2.toNat;let i:=aC a.x 0;let j:=aC a.op 1;let k:=aC a.op 2;let l:=gQ a.x q1;let m:=ay 0 (ag a.bg);let c:Prop:=(ak g (i=b/\True) (false=b/\True));let d:Prop:=(ak (aC a.op 7) (Iv True/\RAM a.x h (gQ a.x h=b/\True)) (false=b/\True));let e:Prop:=(ak j (ak g (ak i (Iv (a.bg.length<=100000000)/\RAL a.bg (decide (a.bg=aV a.bg)=b/\True)) (false=b/\True)) (false=b/\True)) (ak k (Iv True/\RAM a.x q1 (ak l (Iv True/\aa [a.y,q1] (gQ a.y q1=b/\True)) (false=b/\True))) (ak (aC a.op 3) (Iv True/\RAM a.x q1 (l=b/\True)) (ak (aC a.op 4) (ak g (Iv True/\aa ([a.x,10]:List Int) (gQ a.x 10=b/\True)) (false=b/\True)) (ak (aC a.op 5) (ak (aC a.op 5) (c) (d)) (ak (aC a.op 6) (c) (d)))))));let f:Prop:=(ak (!k) (ak (!(aC a.y 0)) (false=b/\True) (e)) (e));aH 0 y.2/\ay y.2 q1/\ak (!j) (ak m (false=b/\True) (f)) (f)
theorem QlS (y:Int×Int):Q7 y:=by
 grind [Q7,gQ]
def Qar:Ok Q6:=okZ (V:=Q7) [] f171 (λ_=>ew ()) trivial λy _=>QlS y
def DD (x:aS) (b:Bool) (n m:Int):Bool:=
 if x.op≠1/\0<x.bg.length\/x.op≠2/\x.y≠0 then false
 else if x.op=1 then b&&decide (x.x=0)&&decide (x.bg=aV x.bg)
 else if x.op=2 then gQ x.x n&&gQ x.y n
 else if x.op=3 then gQ x.x n
 else if x.op=4 then b&&gQ x.x 10
 else if x.op=5\/x.op=6 then b&&decide (x.x=0)
 else if x.op=7 then gQ x.x m
 else false
theorem QlT (y:eu×Int) (i:Xi y):Q8 y:=by
 obtain⟨h1,d,l,f⟩:=i;have hi:aw .i64 y.2 1=y.2+1:=ba ω ω;have g:(gt (aS.mk 0 0 0 []) y.1.ab y.2.toNat).bg.length<=1000000:=by
  grind
 have c:Gu y.1 y.2=DD (gt (aS.mk 0 0 0 []) y.1.ab y.2.toNat) (ay (y.2+1) (ag y.1.ab)) (ag y.1.ab) (ag y.1.aj):=rfl;have a:ay y.2 (ag y.1.ab):=gk.2 d;unfold Q8;rw[c,hi];generalize gt (aS.mk 0 0 0 []) y.1.ab y.2.toNat=x at g ⊢;simp only[bH,km];refine⟨h1,a,?_⟩;clear f c a;have h:x.bg.length<=100000000:=ω;have j:ay 0 (ag x.bg)=!(x.bg==[]):=by cases x.bg<;>simp[ay,ag]
 have k:(0<x.bg.length)=((!(x.bg==[]))):=by grind
 unfold DD;simp only[j,k];generalize (x.bg==[])=e;generalize ay (y.2+1) (ag y.1.ab)=b;generalize ag y.1.ab=n;generalize ag y.1.aj=m;generalize gQ x.x n=q;generalize gQ x.y n=r;generalize gQ x.x 10=s;generalize gQ x.x m=w4;generalize decide (x.bg=aV x.bg)=w5;by_cases u:x.y=0<;>by_cases t:x.x=0<;>cases e<;>cases b
 all_goals
  by_cases o:x.op=1
  ·grind
  by_cases p:x.op=2
  ·grind
  grind
def QfT (a:Ok dr):Ok Xj:=okZ [Q6,Dz] f170 (λ_=>ew ()) ⟨Qar,Qao a⟩ QlT
def kq (ab:List aS):Nat->List Bool->List Int->List Bool
 | 0,s,_=>s
 | f+1,s,l=>if l.length=0 then s else
  let i:=l.getD (l.length-1) 0
  let k:=l.take (l.length-1)
  let x:=ab.getD i.toNat cX
  if s.getD i.toNat false=true then kq ab f s k
  else if x.op=2 then kq ab f (s.set i.toNat true) (k++[x.x,x.y])
  else if x.op=3 then kq ab f (s.set i.toNat true) (k++[x.x])
  else if x.op=7 then kq ab f (s.set i.toNat true) k
  else kq ab f (s.set i.toNat true) (k++[i+1])
def JF (n:Nat):List Bool:=List.replicate n false
def kR (ab:List aS) (start:Int):List Bool:=kq ab (3*ab.length+1) (JF ab.length) [start]
def Xm (ab:List aS):Prop:=ab.length<=1000/\∀i:Nat,i<ab.length->((ab.getD i cX).op=2->0<=(ab.getD i cX).x/\(ab.getD i cX).x<ab.length/\0<=(ab.getD i cX).y/\(ab.getD i cX).y<ab.length)/\((ab.getD i cX).op=3->0<=(ab.getD i cX).x/\(ab.getD i cX).x<ab.length)/\((ab.getD i cX).op≠2->(ab.getD i cX).op≠3->(ab.getD i cX).op≠7->i+1<ab.length)
def Ma (y:List aS×Int):Prop:=Xm y.1/\0<=y.2/\y.2<y.1.length
def Q9:br D:=bL 172 (List aS×Int) (λa s=>match a with
 | [p,i]=>az (aU D s 8 p) λp=>aL (cA i) λ_ i=>.ret ((p:List aS),i)
 | _=>.fail) Ma (λy=>[.list 8 y.1,QsE y.2]) λy=>.list 17 (kR y.1 y.2)
structure rL where
 f:Nat
 s:List Bool
 l:List Int
def pQ (y:List aS×Int) (x:rL):Prop:=x.s.length=y.1.length/\(∀i∈x.l,0<=i/\i<y.1.length)/\3*x.s.count false+x.l.length<=x.f/\x.f<=3*y.1.length+1/\kq y.1 x.f x.s x.l=kR y.1 y.2
def QlU (y:Q9.Y):cO D:=⟨[],[1,2],[(60,⟨rL,[0],λx=>[(5,.own 0 1 (ag x.s)),(6,.own 1 1 (ag x.l))],[],λx=>[(0,.arr 17 x.s 4 false),(1,.arr 5 x.l 3 false)],2,pQ y,λx=>x.f⟩)],[],1,[]⟩
def Ck (p:eu):Prop:=p.ab.length<=400/\p.aj.length<=8/\(∀i:Nat,i<p.ab.length->Gu p i)/\(∀x∈p.ab,x.bg.length<=1000000)/\Xm p.ab/\∀r:Nat,r<p.aj.length->0<=p.aj.getD r 0/\p.aj.getD r 0<p.ab.length/\∀i:Nat,i<p.ab.length->(kR p.ab (p.aj.getD r 0)).getD i false->(p.ab.getD i cX).op=7->(p.ab.getD i cX).x=r
def Mb:br D:=bL 130 eu (λa s=>match a with
 | [p]=>sS p s
 | _=>.fail) Ck (λy=>[yc y]) λ_=>.lit true
def Od (y:eu):Nat×AO D.E:=(0,.cells [.list 8 y.ab,.list 5 y.aj] 72 false)
def QlW (y:Mb.Y):cO D:=⟨[],[],[(58,⟨Nat,[20],λk=>[(1,.ptr 0 0),(21,QsE k)],[],λ_=>[Od y],1,λk=>k<=(eu.ab y).length,λk=>(eu.ab y).length-k⟩),
 (122,⟨Nat,[30,31],λk=>[(1,.ptr 0 0),(32,QsE k)],[],λ_=>[Od y],1,λk=>k<=(eu.aj y).length,λk=>(eu.aj y).length-k⟩)],[],1,
 [(62670,⟨Nat,λr=>⟨Nat,[4,30,31,32,46,47],λk=>[(1,.ptr 0 0),(48,QsE k)],[],λ_=>[Od y],1,λk=>k<=(eu.ab y).length/\r<(eu.aj y).length,λk=>(eu.ab y).length-k⟩,none⟩)]⟩
def Q' (y:(List aS)×Int):Prop:=let c:=ag y.1;let q1:=([y.2]:List Int);let h:=λp:Prop=>aa [y.1] p;aH 0 c/\aH c c/\bx c 1/\(∃z:rL,h (ag (kO c false)=ag z.s/\ag q1=ag z.l/\q1=z.l/\kO c false=z.s/\(Iv (pQ y z))))/\(∀x:rL,let j:=ag x.l;let b:=cF .i64 j 1;let g:=dj x.l b;let a:=gt 0 x.l b.toNat;let m:=gt false x.s a.toNat;let k:=bC g [aw .i64 a 1];let e:=gt (aS.mk 0 0 0 []) y.1 a.toNat;let i:=ag (bC g [e.x]);let d:=bC g [e.x,e.y];(Iv (pQ y x))->ak (ay 0 j) (aH 0 b/\ay b j/\aH 0 b/\aH b j/\aH 0 a/\ay a (ag x.s)/\ak m (∃z:rL,h (ag x.s=ag z.s/\b=ag z.l/\g=z.l/\x.s=z.s/\(Iv (pQ y z/\z.f<x.f)))) (aH 0 a/\ay a (ag x.s)/\aH 0 a/\ay a c/\ak (aC e.op 2) (bx (ag d) 8/\∃z:rL,h (ag x.s=ag z.s/\ag d=ag z.l/\d=z.l/\cC x.s a.toNat true=z.s/\(Iv (pQ y z/\z.f<x.f)))) (ak (aC e.op 3) (bx i 8/\∃z:rL,h (ag x.s=ag z.s/\i=ag z.l/\bC g [e.x]=z.l/\cC x.s a.toNat true=z.s/\(Iv (pQ y z/\z.f<x.f)))) (ak (aC e.op 7) (∃z:rL,h (ag x.s=ag z.s/\b=ag z.l/\g=z.l/\cC x.s a.toNat true=z.s/\(Iv (pQ y z/\z.f<x.f)))) (bx (ag k) 8/\∃z:rL,h (ag x.s=ag z.s/\ag k=ag z.l/\k=z.l/\cC x.s a.toNat true=z.s/\(Iv (pQ y z/\z.f<x.f)))))))) (x.s=kR y.1 y.2/\True))
abbrev RAR {T0 T1 T2 T3 T4 T5:Type} (a:T0) (b:T1) (c:T2) (d:T3) (e:T4) (f:T5) (p:Prop):Prop:=aa [a] (aa [b] (aa [c] (aa [d] (aa [e] (aa [f] p)))))
def Q_ (y:eu):Prop:=let b:=y.ab.length;let q1:=ag y.aj;let e:=y.aj.length;let f:=ag y.ab;let h:=λp:Prop=>RA2 y p;ak (ay 400 f) (False) (ak (ay 8 q1) (False) ((∃z:Nat,RAL f (0=(z:Int)/\h ((Iv (z<=b)))))/\(∀x:Nat,let r:=!(Gu y (x:Int));(Iv (x<=b))->ak (ay (x:Int) f) (Iv (Xi (y,(x:Int)))/\RA2 y (RAL (x:Int) (ak r (False) (∃z:Nat,aa [f] (aw .i64 (x:Int) 1=(z:Int)/\h ((Iv (z<=b/\(b-z)<(b-x))))))))) ((∃z:Nat,RAM y.aj q1 (0=(z:Int)/\h ((Iv (z<=e)))))/\(∀d:Nat,let o:=ay (d:Int) q1;let k:=gt 0 y.aj (d:Int).toNat;let l:=kR y.ab k;let q:=λp:Prop=>RAR (d:Int) y.aj q1 (d:Int) l (ag l) p;(Iv (d<=e))->ak o (aH 0 (d:Int)=true/\o=true/\Iv True/\RAM k f (ak (!(gQ k f)) (False) (Iv (Ma (y.ab,k))/\aa [y.ab] (aa [k] (∃z:Nat,(∃c:Nat,q (0=(c:Int)/\h ((Iv (c<=b/\z<e)))))/\(∀a:Nat,let i:=ay (a:Int) (ag l);let m:=gt false l (a:Int).toNat;let j:=gt (aS.mk 0 0 0 []) y.ab (a:Int).toNat;let n:=!(aC j.x (d:Int));let g:Prop:=(∃c:Nat,q (aw .i64 (a:Int) 1=(c:Int)/\h ((Iv ((c<=b/\z<e)/\(b-c)<(b-a))))));(Iv (a<=b/\z<e))->ak i (aH 0 (a:Int)=true/\i=true/\ak m (aH 0 (a:Int)=true/\ay (a:Int) f=true/\ak (aC j.op 7) (aH 0 (a:Int)=true/\ay (a:Int) f=true/\ak n (False) (g)) (g)) (g)) (∃c:Nat,aa [y.aj] (aa [q1] (aw .i64 (d:Int) 1=(c:Int)/\h ((Iv (c<=e/\(e-c)<(e-d))))))))))))) (True))))))
theorem DE:∀(s:List Bool) (i:Nat),i<s.length->s.getD i false=false->(s.set i true).count false+1=s.count false
 | [],_,h,_=>absurd h (Zbo _)
 | b::s,0,_,h=>by
  grind
 | b::s,i+1,h,h2=>by
  grind
theorem QlY (y:List aS×Int) (N:Ma y):Q' y:=by
 obtain⟨⟨c1,c2⟩,O,P⟩:=N;unfold Q';simp only[bI,bH,av,cC,bm,a7];refine⟨ω,ω,ω,⟨⟨3*y.1.length+1,JF y.1.length,[y.2]⟩,by rfl,rfl,rfl,rfl,by unfold JF;simp,λi hi=>?_,?_,Zah _,rfl⟩,λx z=>⟨λh=>?_,λh=>?_⟩⟩
 ·grind
 ·unfold JF;simp
 ·obtain⟨f,s,l⟩:=x;obtain⟨e,e2,t,u,c⟩:=z;simp only at e e2 t u c h ⊢;obtain⟨m,J⟩:∃m,l.length=m+1:=⟨l.length-1,ω⟩;obtain⟨f,rfl⟩:∃g,f=g+1:=⟨f-1,ω⟩;have L:cF .i64 (l.length:Int) 1=(m:Int):=by
   grind
  have w:gt 0 l m=l[m]'ω:=by
   grind
  have hi:=e2 _ (Zas (l:=l) (n:=m) ω);have hk:∀i∈l.take m,0<=i/\i<(y.1.length:Int):=λi hi=>e2 i (Zcg hi)
  have d:(l.take m).length=m:=by grind
  rw[kq,Zaa ω,J,Zde] at c;rw[L,Zad,w];have p:dj l (m:Int)=l.take m:=rfl;rw[p];have E:l.getD m 0=l[m]'ω:=w;simp only[E] at c;generalize l[m]'ω=i at hi c ⊢;generalize l.take m=k at hk d c ⊢;obtain⟨n,rfl⟩:=Zau hi.1;have K:n<s.length:=ω;simp only[Zad] at c ⊢;have F:gt (aS.mk 0 0 0 []) y.1 n=y.1.getD n cX:=rfl;have gs:gt false s n=s.getD n false:=rfl;rw[F,gs];obtain⟨B,C,D⟩:=c2 n ω;have H:List.count false s<=s.length:=List.count_le_length;have G:aw .i64 (n:Int) 1=(n:Int)+1:=ba ω ω;rw[G];generalize y.1.getD n cX=x at B C D c ⊢;have snoc:∀(v:List Int),(∀i∈v,0<=i/\i<(y.1.length:Int))->∀i∈k++v,0<=i/\i<(y.1.length:Int):=λv M i hi=>(Zax.1 hi).elim (hk i) (M i)
  refine⟨ω,ω,ω,ω,ω,ω,λhs=>?_,λhs=>⟨ω,ω,ω,ω,?_⟩⟩
  ·rw[Zac hs] at c;exact⟨⟨f,s,k⟩,rfl,by rw[d],rfl,rfl,⟨e,hk,by grind,by show f<=_;omega,c⟩,Zbr _⟩
  ·have I:=DE s n K hs;rw[Zaa (by rw[hs];decide)] at c;have qo:(s.set n true).length=s.length:=Zbb;have two:∀a b:Int,(k++[a,b]).length=m+2:=λa b=>by rw[Zab,d];rfl
   have one:∀a:Int,(k++[a]).length=m+1:=λa=>by rw[Zab,d];rfl
   refine⟨λo=>?_,λj=>⟨λo=>?_,λq=>⟨λo=>?_,λA=>?_⟩⟩⟩
   ·rw[Zac o] at c;obtain⟨r,a2,a3,a4⟩:=B o;refine⟨by rw[two];omega,⟨f,s.set n true,k++[x.x,x.y]⟩,by rw[qo],rfl,rfl,rfl,⟨qo.trans e,snoc _ λi hi=>?_,by grind,by show f<=_;omega,c⟩,Zbr _⟩;simp only[Zbf,Zds,Zdt] at hi;omega
   ·rw[Zaa j,Zac o] at c;obtain⟨r,a2⟩:=C o;refine⟨by rw[one];omega,⟨f,s.set n true,k++[x.x]⟩,by rw[qo],rfl,rfl,rfl,⟨qo.trans e,snoc _ λi hi=>?_,by grind,by show f<=_;omega,c⟩,Zbr _⟩;rw[ZaI.1 hi];exact⟨r,a2⟩
   ·rw[Zaa j,Zaa q,Zac o] at c;exact⟨⟨f,s.set n true,k⟩,by rw[qo],by rw[d],rfl,rfl,⟨qo.trans e,hk,by grind,by show f<=_;omega,c⟩,Zbr _⟩
   ·rw[Zaa j,Zaa q,Zaa A] at c;have:=D j q A;refine⟨by rw[one];omega,⟨f,s.set n true,k++[(n:Int)+1]⟩,by rw[qo],rfl,rfl,rfl,⟨qo.trans e,snoc _ λi hi=>?_,by grind,by show f<=_;omega,c⟩,Zbr _⟩;rw[ZaI.1 hi];omega
 ·obtain⟨f,s,l⟩:=x;obtain⟨e,e2,t,u,c⟩:=z;simp only at c h ⊢;rw[<-c];cases f with
  | zero=>rfl
  | succ f=>rw[kq,Zac ω]
def Qas:Ok Q9:=okZ [] f172 QlU trivial QlY
theorem mf (ab:List aS):∀f s l,(kq ab f s l).length=s.length
 | 0,s,l=>rfl
 | f+1,s,l=>by
  rw[kq];simp only;split
  ·rfl
  ·split
   ·exact mf ab f _ _
   ·split
    ·rw[mf];exact Zbb
    ·split
     ·rw[mf];exact Zbb
     ·split<;>(rw[mf];exact Zbb)
theorem mg (ab:List aS) (a:Int):(kR ab a).length=ab.length:=by
 grind [kR,mf,JF]
theorem QlZ (y:eu) (g:Ck y):Q_ y:=by
 obtain⟨p1,p2,p3,p4,p5,p6⟩:=g;unfold Q_;simp only[bI,bH,av,Zad,cS,Zan,Zao];refine⟨λh=>ω,λh=>⟨λh=>ω,λh=>⟨⟨0,rfl,Zaj _⟩,λx e=>⟨λk=>?_,λk=>⟨⟨0,rfl,Zaj _⟩,λr j=>⟨λk=>?_,λk=>trivial⟩⟩⟩⟩⟩⟩
 ·have b:x<y.ab.length:=ω;have hs:=p3 x b;exact⟨⟨ω,k,by grind,p4⟩,⟨λq=>Bool.noConfusion (hs.symm.trans q),λ_=>⟨x+1,ba ω ω,ω,ω⟩⟩⟩
 ·have a:r<y.aj.length:=ω;obtain⟨d,a2,a3⟩:=p6 r a;have hw:gQ (y.aj.getD r 0) y.ab.length:=by grind [gQ]
  refine⟨ω,k,⟨λq=>Bool.noConfusion (hw.symm.trans q),λ_=>⟨⟨p5,d,a2⟩,r,⟨0,rfl,Zaj _,a⟩,λx e=>⟨λk2=>?_,λ_=>⟨r+1,ba ω ω,ω,ω⟩⟩⟩⟩⟩;have f:x<y.ab.length:=by grind [mg]
  have i:∃c:Nat,aw .i64 (x:Int) 1=(c:Int)/\(c<=y.ab.length/\r<y.aj.length)/\y.ab.length-c<y.ab.length-x:=⟨x+1,ba ω ω,⟨ω,a⟩,ω⟩;simp_all
def QfU (a:Ok dr):Ok Mb:=okZ [Xj,Q6,Q9] f130 QlW ⟨QfT a,Qar,Qas⟩ QlZ
def sr (a b:dh) (p:Prop):Prop:=a.c0=b.c0/\a.c1=b.c1/\a.c2=b.c2/\a.c3=b.c3/\a.c4=b.c4/\a.c5=b.c5/\a.c6=b.c6/\a.c7=b.c7/\a.c8=b.c8/\a.c9=b.c9/\p
def EwM (a:aK) (b:dh) (p:Prop):Prop:=a.c0=b.c0/\a.c1=b.c1/\a.c2=b.c2/\a.c3=b.c3/\a.c4=b.c4/\a.c5=b.c5/\a.c6=b.c6/\a.c7=b.c7/\a.c8=b.c8/\a.c9=b.c9/\p
def nS (a:dh) (p:Prop):Prop:=aa [a.c0,a.c1,a.c2,a.c3,a.c4,a.c5,a.c6,a.c7,a.c8,a.c9] p
def Gv (a:aK) (p:Prop):Prop:=aa [a.c0,a.c1,a.c2,a.c3,a.c4,a.c5,a.c6,a.c7,a.c8,a.c9] p
def oM:(∀a p,nS a p=p)/\∀a p,Gv a p=p:=⟨λ_ _=>by simp[nS],λ_ _=>by simp[Gv]⟩
structure kS where
 w:dh
 rd:List aK
 e:Bool
def Ql0 (v:AV D.E) (s:St D.E):C dh:=match v with
 | .ptr b _=>az (cN (s.h.get b)) λo=>match o with
  | .cells cs _ _=>match cs with
   | [d,a0,a,a2,a3,a4,a5,c,e,f,a9,_]=>aL (x_ d) λd _=>aL (cA a0) λ_ a0=>aL (cA a) λ_ a=>aL (cA a2) λ_ a2=>aL (cA a3) λ_ a3=>aL (cA a4) λ_ a4=>
    aL (cA a5) λ_ a5=>aL (cA c) λ_ c=>aL (cA e) λ_ e=>aL (cA f) λ_ f=>aL (cA a9) λ_ a9=>.ret ⟨d,a0,a,a2,a3,a4,a5,c,e,f,a9,[]⟩
   | _=>.fail
  | _=>.fail
 | _=>.fail
structure ToY where
 v:nZ
 k:kS
 t:aK
variable {s:qy} {i:Int}
def Br:aS:=⟨0,0,0,[]⟩
def Xp (t:aK) (i v:Int):aK:=⟨t.pc,if i=0 then v else t.c0,if i=1 then v else t.c1,if i=2 then v else t.c2,if i=3 then v else t.c3,if i=4 then v else t.c4,if i=5 then v else t.c5,if i=6 then v else t.c6,if i=7 then v else t.c7,if i=8 then v else t.c8,if i=9 then v else t.c9⟩
def Ra (w:dh) (t:aK):dh:=⟨true,t.c0,t.c1,t.c2,t.c3,t.c4,t.c5,t.c6,t.c7,t.c8,t.c9,w.aB⟩
def Xq (ab:List aS) (aO:Int):Nat->qy->kS->aK->Bool×qy×kS
 | 0,s,k,_=>(false,s,k)
 | n+1,s,k,t=>
  if mb s t.pc=false then(false,s,k) else
  let a:=nf s t.pc true
  let x:=ab.getD t.pc.toNat Br
  if x.op=7 then(true,a,{ k with w:=Ra k.w t })
  else if x.op=2 then
   let r:=Xq ab aO n a k { t with pc:=x.x }
   if r.1=true then r else Xq ab aO n r.2.1 r.2.2 { t with pc:=x.y }
  else if x.op=1 then(false,a,{ k with rd:=k.rd++[t] })
  else if x.op=3 then Xq ab aO n a k { t with pc:=x.x }
  else if x.op=4 then Xq ab aO n a k (Xp { t with pc:=t.pc+1 } x.x aO)
  else if x.op=5/\0<aO then(false,a,k)
  else if x.op=6/\k.e=false then(false,a,k)
  else Xq ab aO n a k { t with pc:=t.pc+1 }
def kr (s:qy):Nat:=(List.range s.pl.length).countP λi:Nat=>mb s i
def Oe (s:qy):Prop:=s.pl.length<=1000/\(∀v∈s.pl,(0:Int)<=v)/\s.us.length+kr s=s.pl.length/\∀j,j<s.us.length->0<=(s.us.getD j it0).i/\(s.us.getD j it0).i<s.pl.length/\s.pl.getD (s.us.getD j it0).i.toNat 0=j
def Rb (c:List aS):Prop:=c.length<=1000/\∀x∈c,x.op=4->0<=x.x/\x.x<=9
theorem rM:mb s i↔0<=i/\i<s.pl.length/\F9 s i=false:=by
 grind [mb]
theorem rN:F9 s i↔0<=i/\i<s.pl.length/\s.pl.getD i.toNat 0<s.us.length/\(s.us.getD (s.pl.getD i.toNat 0).toNat it0).i=i:=by
 grind [F9]
theorem Re (h:∀v∈s.pl,(0:Int)<=v) (i:Nat):0<=s.pl.getD i 0:=by
 rw[Zag];cases e:s.pl[i]? with
 | none=>exact ZaQ 0
 | some v=>exact h v (ZaJ e)
theorem uW (x:Bool) (h:mb s i):nf s i x=⟨s.pl.set i.toNat s.us.length,s.us++[⟨i,x⟩]⟩:=by grind [nf]
theorem has_add (x:Bool) (a:∀v∈s.pl,(0:Int)<=v) (h:mb s i) (j:Int):F9 (nf s i x) j↔F9 s j\/j=i:=by
 obtain⟨h1,c,d⟩:=rM.1 h;rw[uW x h,rN,rN];simp only[Zbb,Zab,Zae,Zak];have g:=Re a j.toNat;by_cases e:j=i
 ·grind
 ·by_cases f:0<=j/\j<s.pl.length
  ·have b:(s.pl.set i.toNat (s.us.length:Int)).getD j.toNat 0=s.pl.getD j.toNat 0:=by
    grind
   grind
  ·omega
theorem uX (x:Bool):(nf s i x).pl.length=s.pl.length:=by grind [nf]
theorem Xr (x:Bool) (a:∀v∈s.pl,(0:Int)<=v) (h:mb s i) (j:Int):mb (nf s i x) j=(mb s j&&decide (j≠i)):=by
 grind [rM,has_add,nf]
theorem zJ (p:Nat->Bool) (a:Nat):∀n,(List.range n).countP (λx=>p x&&decide (x≠a))+(if a<n/\p a=true then 1 else 0)=(List.range n).countP p
 | 0=>by simp
 | n+1=>by
  have b:=zJ p a n;grind [List.range_succ]
theorem wU (x:Bool) (b:∀v∈s.pl,(0:Int)<=v) (h:mb s i):kr (nf s i x)+1=kr s:=by
 obtain⟨h1,a,_⟩:=rM.1 h;unfold kr;rw[uX,<-zJ (λi:Nat=>mb s i) i.toNat s.pl.length,Zac ⟨ω,by grind⟩];grind [Xr]
theorem JG (x:Bool) (hs:Oe s) (h:mb s i):Oe (nf s i x):=by
 obtain⟨h1,f,n,g⟩:=hs;obtain⟨c1,c2,c3⟩:=rM.1 h;have o:=wU x f h;refine⟨by grind [uX],?_,?_,?_⟩
 ·grind [uW]
 ·grind [uW]
 ·rw[uW x h];intro j k;simp only[Zab,Zae,Zak,Zbb] at k ⊢;by_cases e:j<s.us.length
  ·obtain⟨a,b,c⟩:=g j e;have d:(s.us++[(⟨i,x⟩:Item)]).getD j it0=s.us.getD j it0:=by grind
   rw[d];refine⟨a,b,?_⟩;have l:(s.us.getD j it0).i≠i:=λq=>by
    grind [rN,Int.toNat_natCast]
   rw[Zag,Zc2 ω,<-Zag];exact c
  ·have m:j=s.us.length:=ω;simp_all
structure Xs (s:qy) (k:kS) (r:Bool×qy×kS):Prop where
 i:Oe r.2.1
 l:r.2.1.pl.length=s.pl.length
 rd:r.2.2.rd.length+kr r.2.1<=k.rd.length+kr s
 f:kr r.2.1<=kr s
 th:r.2.2.w.aB=k.w.aB
 e:r.2.2.e=k.e
variable {s:qy}
def Xs.trans {k:kS} {b:Bool} {a:qy} {k1:kS} {r:Bool×qy×kS} (h:Xs s k (b,a,k1)) (g:Xs a k1 r):Xs s k r:=
 ⟨g.i,g.l.trans h.l,Zav g.rd h.rd,Zav g.f h.f,g.th.trans h.th,g.e.trans h.e⟩
theorem Xt {k:kS} {i:Int} (b x:Bool) (hs:Oe s) (h:mb s i):Xs s k (b,nf s i x,k):=by
 have a:=wU x hs.2.1 h;exact⟨JG x hs h,uX x,by grind,by grind,rfl,rfl⟩
theorem wV (ab:List aS) (aO:Int):∀(n:Nat) (s:qy) (k:kS) (t:aK),Oe s->Xs s k (Xq ab aO n s k t)
 | 0,s,k,t,hs=>⟨hs,rfl,Zah _,Zah _,rfl,rfl⟩
 | n+1,s,k,t,hs=>by
  unfold Xq;by_cases h:mb s t.pc=false
  ·rw[Zac h];exact⟨hs,rfl,Zah _,Zah _,rfl,rfl⟩
  ·rw[Zaa h];have c:mb s t.pc:=by grind
   have a:=Xt (k:=k) false true hs c;have d:=wU true hs.2.1 c;simp only;have go:∀b,Xs s k (Xq ab aO n (nf s t.pc true) k b):=λb=>a.trans (wV ab aO n _ k b a.i)
   split
   ·exact⟨a.i,a.l,a.rd,a.f,rfl,rfl⟩
   split
   ·split
    ·exact go _
    ·exact(go { t with pc:=_ }).trans (wV ab aO n _ _ _ (go _).i)
   split
   ·exact⟨a.i,a.l,by grind,a.f,rfl,rfl⟩
   grind
theorem Xu {i:Int} {x:Bool} (h:mb s i=false):nf s i x=s:=by grind [nf]
def Bs:dh:=⟨false,0,0,0,0,0,0,0,0,0,0,[]⟩
def JH (ab:List aS) (aO:Int):List aK->qy->kS->qy×kS
 | [],s,k=>(s,k)
 | t::l,s,k=>let r:=Xq ab aO (kr s+1) s k t;if r.1=true then r.2 else JH ab aO l r.2.1 r.2.2
structure ExY where
 v:nZ
 i:Int
 e:Bool
def exL (y:ExY):dh:=y.v.L.getD y.i.toNat Bs
def exK (y:ExY):kS:=⟨{ exL y with aB:=[] },[],y.e⟩
def exS (y:ExY):qy:=⟨y.v.s.pl,Oc⟩
def DF (y:ExY):qy×kS:=JH y.v.p.ab y.v.aO (exL y).aB (exS y) (exK y)
def vmP (v:nZ):Prop:=v.s.pl.length=v.p.ab.length/\(∀x∈v.s.pl,(0:Int)<=x)/\Rb v.p.ab
def lsA (w:dh):AV D.E:=.agg [.bool w.done,.int .i64 w.c0,.int .i64 w.c1,.int .i64 w.c2,.int .i64 w.c3,.int .i64 w.c4,.int .i64 w.c5,.int .i64 w.c6,.int .i64 w.c7,.int .i64 w.c8,.int .i64 w.c9,.dd]
theorem JI {l:List Int} (h:∀v∈l,(0:Int)<=v) (hl:l.length<=1000):Oe ⟨l,Oc⟩/\kr ⟨l,Oc⟩=l.length:=by
 have a:kr ⟨l,Oc⟩=l.length:=by
  unfold kr;rw[List.countP_eq_length.2,List.length_range];intro i hi;rw[List.mem_range] at hi;refine rM.2 ⟨ω,ω,?_⟩;cases e:F9 ⟨l,Oc⟩ i with
  | false=>rfl
  | true=>
   have c:=(rN.1 e).2.2.1;have d:=Re (s:=⟨l,Oc⟩) h (i:Int).toNat;have f:((Oc.length:Nat):Int)=0:=rfl;grind
 exact⟨⟨hl,h,by rw[a];exact Za6 _,λj b=>absurd b (Zbo _)⟩,a⟩
def DG (v:nZ):Nat->qy×List dh
 | 0=>(v.s,[])
 | k+1=>((DF ⟨⟨v.p,v.aO,v.L,(DG v k).1⟩,k,true⟩).1,(DG v k).2++[(DF ⟨⟨v.p,v.aO,v.L,(DG v k).1⟩,k,true⟩).2.w])
def enP (y:nZ):Prop:=vmP y/\y.L.length<=1000/\∀l∈y.L,l.aB.length<=1000000
theorem wW (ab:List aS) (aO:Int):∀(l:List aK) (s:qy) (k:kS),Oe s->Xs s k (false,JH ab aO l s k)
 | [],s,k,hs=>⟨hs,rfl,Zah _,Zah _,rfl,rfl⟩
 | t::l,s,k,hs=>by
  have a:=wV ab aO (kr s+1) s k t hs;rw[JH];split
  ·exact⟨a.i,a.l,a.rd,a.f,a.th,a.e⟩
  ·exact Xs.trans (b:=false) ⟨a.i,a.l,a.rd,a.f,a.th,a.e⟩ (wW ab aO l _ _ a.i)
def Rf {y:ExY} (h:vmP y.v):(DF y).1.pl.length=y.v.p.ab.length/\(∀x∈(DF y).1.pl,(0:Int)<=x)/\(DF y).2.rd.length<=1000/\(DF y).2.w.aB=[]:=by
 obtain⟨h1,c,d⟩:=h;have g:y.v.p.ab.length<=1000:=d.1;obtain⟨b,e⟩:=JI (l:=y.v.s.pl) c ω;have a:=wW y.v.p.ab y.v.aO (exL y).aB (exS y) (exK y) b;refine⟨a.l.trans h1,a.i.2.1,?_,a.th⟩;have f:(DF y).2.rd.length+kr (DF y).1<=0+kr ⟨y.v.s.pl,Oc⟩:=a.rd;omega
theorem JJ {y:nZ} (h:vmP y):∀k,vmP ⟨y.p,y.aO,y.L,(DG y k).1⟩/\(DG y k).2.length=k
 | 0=>⟨h,rfl⟩
 | k+1=>by
  have a:=JJ h k;have e:=Rf (y:=⟨⟨y.p,y.aO,y.L,(DG y k).1⟩,k,true⟩) a.1;exact⟨⟨e.1,e.2.1,h.2.2⟩,by grind [DG]⟩
structure StY where
 v:nZ
 i:Int
 r:Int
def V9 (y:StY):ExY:=⟨y.v,y.i,false⟩
def nxT (t:aK):aK:={ t with pc:=t.pc+1 }
def Xv (ab:List aS) (r:Int) (t:aK):Bool:=bf (ab.getD t.pc.toNat Br).bg r
def Gx (ab:List aS) (r:Int):List aK->qy->List aK->qy×List aK
 | [],s,o=>(s,o)
 | t::l,s,o=>if Xv ab r t=true then Gx ab r l (nf s (t.pc+1) true) (if mb s (t.pc+1)=true then o++[nxT t] else o) else Gx ab r l s o
def stL (y:StY):qy×List aK:=Gx y.v.p.ab y.r (DF (V9 y)).2.rd ⟨(DF (V9 y)).1.pl,Oc⟩ []
def stA (y:StY):Int:=y.v.p.aj.getD y.i.toNat 0
def stR (y:StY):qy×List aK:=if (DF (V9 y)).2.w.done=true then stL y else(nf (stL y).1 (stA y) true,if mb (stL y).1 (stA y)=true then(stL y).2++[⟨stA y,-1,-1,-1,-1,-1,-1,-1,-1,-1,-1⟩] else(stL y).2)
def stW (y:StY):dh:={ (DF (V9 y)).2.w with aB:=(stR y).2 }
theorem zK {s:qy} (i:Int) (x:Bool) (hs:Oe s):Oe (nf s i x)/\(nf s i x).pl.length=s.pl.length:=by
 grind [uX,Xu,JG]
theorem sU (ab:List aS) (r:Int):∀(l:List aK) (s:qy) (o:List aK),Oe s->Oe (Gx ab r l s o).1/\(Gx ab r l s o).1.pl.length=s.pl.length/\(Gx ab r l s o).2.length<=o.length+l.length
 | [],s,o,hs=>⟨hs,rfl,Zah _⟩
 | t::l,s,o,hs=>by
  rw[Gx];split
  ·obtain⟨a,a2⟩:=zK (t.pc+1) true hs;obtain⟨b1,b,c⟩:=sU ab r l (nf s (t.pc+1) true) (if mb s (t.pc+1)=true then o++[nxT t] else o) a;grind
  ·obtain⟨b1,b,c⟩:=sU ab r l s o hs;grind
def qA (v:nZ) (r:Int):Nat->nZ
 | 0=>v
 | k+1=>⟨v.p,v.aO,(qA v r k).L.set k (stW ⟨qA v r k,k,r⟩),(stR ⟨qA v r k,k,r⟩).1⟩
structure RnY where
 v:nZ
 r:Int
 n:Int
def rnN (n:Int):Int:=fK (imax n 0) 4
def rnF (y:RnY):nZ:={ qA y.v y.r y.v.L.length with aO:=y.v.aO+rnN y.n }
theorem QcJ {y:StY} (h:vmP y.v):(stR y).1.pl.length=y.v.p.ab.length/\(∀x∈(stR y).1.pl,(0:Int)<=x)/\(stR y).2.length<=1001:=by
 obtain⟨a,e2,f,g⟩:=Rf (y:=V9 y) h;have d:y.v.p.ab.length<=1000:=h.2.2.1;replace a:(DF (V9 y)).1.pl.length=y.v.p.ab.length:=a;obtain⟨b,e⟩:=JI (l:=(DF (V9 y)).1.pl) e2 ω;obtain⟨g1,g2,g3⟩:=sU y.v.p.ab y.r (DF (V9 y)).2.rd ⟨(DF (V9 y)).1.pl,Oc⟩ [] b;replace g2:(stL y).1.pl.length=y.v.p.ab.length:=Eq.trans g2 a;replace g1:Oe (stL y).1:=g1;replace g3:(stL y).2.length<=0+(DF (V9 y)).2.rd.length:=g3;obtain⟨c,a2⟩:=zK (stA y) true g1;unfold stR;split
 ·exact⟨g2,g1.2.1,ω⟩
 ·refine⟨a2.trans g2,c.2.1,?_⟩;grind
theorem Bt {v:nZ} (r:Int) (h:enP v):∀k,enP (qA v r k)/\(qA v r k).p=v.p/\(qA v r k).aO=v.aO/\(qA v r k).L.length=v.L.length
 | 0=>⟨h,rfl,rfl,rfl⟩
 | k+1=>by
  obtain⟨⟨i1,i2,i3⟩,a,b,c⟩:=Bt r h k;have e:=QcJ (y:=⟨qA v r k,k,r⟩) i1;have hl:((qA v r k).L.set k (stW ⟨qA v r k,k,r⟩)).length=v.L.length:=by grind
  refine⟨⟨⟨e.1.trans (by grind [qA]),e.2.1,h.1.2.2⟩,by show(List.set _ _ _).length<=1000;rw[hl];exact h.2.1,λl hl=>?_⟩,rfl,rfl,hl⟩;rcases Zb1 hl with q | q
  ·grind
  ·rw[q];have:=e.2.2;show(stR ⟨qA v r k,k,r⟩).2.length<=1000000
   omega
def lsP (l:List dh):Prop:=l.length<=1000/\∀x∈l,x.aB.length<=1000000
structure Rh where
 a:Int
 b:Int
 c:Int
 d:Int
 n:Int
def dcO (y:Rh):List (Nat×AO D.E):=[(0,.cells [.int .u8 y.a,.int .u8 y.b,.int .u8 y.c,.int .u8 y.d,.int .i64 y.n] 245 false)]
def Ql4 (v:AV D.E) (s:St D.E):C Rh:=match v with
 | .ptr b _=>az (cN (s.h.get b)) λo=>match o with
  | .cells cs _ _=>match cs with
   | [a,b,c,d,n]=>aL (cA a) λ_ a=>aL (cA b) λ_ b=>aL (cA c) λ_ c=>aL (cA d) λ_ d=>aL (cA n) λ_ n=>.ret ⟨a,b,c,d,n⟩
   | _=>.fail
  | _=>.fail
 | _=>.fail
def Gy (y:Rh):By:=[b8 y.a,b8 y.b,b8 y.c,b8 y.d].take y.n.toNat
def bdG (k:Nat):List Gt:=List.replicate k (65533,1)
def dc0:Rh:=⟨0,0,0,0,0⟩
def unC:br D:=⟨119,Unit,λ_ _=>.ret (),λ_=>True,λ_=>[],λ_=>[],λ_=>.ptr 0 0,λ_=>dcO dc0,0,1⟩
def dcP (y:Rh):Prop:=0<=y.n/\y.n<=4
def lh (l:By) (i:Nat):Int:=if i<l.length then((l.getD i 0).toNat:Int) else 0
def uoF (l:By):Rh:=⟨lh l 0,lh l 1,lh l 2,lh l 3,if l.length<=4 then l.length else 4⟩
def Qf0 (y:Unit):Prop:=aa ([0,0,0,0,0]:List Int) (True)
abbrev RAC (p:Prop):Prop:=aa ([0]:List Int) p
def QcL (y:List UInt8):Prop:=let a:Prop:=(Iv True/\RAC (cn (ay 0 (dL y)) (sat y 0) 0=lh y 0/\cn (ay 1 (dL y)) (sat y 1) 0=lh y 1/\cn (ay 2 (dL y)) (sat y 2) 0=lh y 2/\cn (ay 3 (dL y)) (sat y 3) 0=lh y 3/\fK 4 (dL y)=ite (y.length<=4) (y.length:Int) 4/\True));Iv True/\RAL y (ak (!(gF y)) (ak (ay 0 (ag y)) (False) (a)) (a))
theorem Ql6:Ok unC:=okZ (V:=Qf0) [] f119 (λ_=>ew ()) trivial λy a=>by
 grind [Qf0]
theorem Xw (y:By) (i:Nat):cn (ay i (dL y)) (sat y i) 0=lh y i:=by
 grind [cn,lh,sat]
theorem uoH (y:By) (a:y=[]\/gF y):QcL y:=by
 unfold QcL;simp only[bI,bH,av,Zan,Zao];grind [fK,Xw]
end
end sx
namespace sx
open Go Go.RowKit
variable {M:Pm D} {H:Hp D} {w w':World}
variable {a:AV D.E} {g:Nat} {A:Array Value} {l:List (AV D.E)}
def iS (a:dQ M H w) (h:Below w.heap.size w w') (lo:Nat):cP H M w H M w' lo lo:=.world a h.size (λc b=>h.block c b) h.os h.tape h.output lo
theorem wX (h:LR M [a] A.toList):∃v,A=#[v]/\VR M a v:=by
 obtain⟨l⟩:=A;obtain⟨v,r,e,h1,b⟩:=h.bD;have:=b.kW;grind
theorem DH {b:AV D.E} (h:LR M [a,b] A.toList):∃v u,A=#[v,u]/\VR M a v/\VR M b u:=by
 obtain⟨l⟩:=A;obtain⟨v,r,e,h1,c⟩:=h.bD;obtain⟨u,g,e2,f,d⟩:=c.bD;have:=d.kW;grind
theorem Xx (r:dQ M H w) (n:Below w.heap.size w w') {o c:Nat} {xs:List (D.E c)} (B:w.heap.size<=g)
  (s:∀i v,(aW c xs)[i]?=some v->∃m,w'.cell? ⟨g,o+i,none⟩=some m/\VR M v m) (lo:Nat):cP H M w H ⟨M.pl,cY M.sg g o (aW c xs)⟩ w' lo lo:=by
 have k:=cP.world r n.size (λc s=>n.block c s) n.os n.tape n.output lo;have hle:sx.Le M ⟨M.pl,cY M.sg g o (aW c xs)⟩:=⟨λ_ _ h=>h,kb λq _ _=>by
  cases hs:M.sg g q with
  | none=>rfl
  | some v=>have:=r.slt hs;omega⟩
 have u:∀b f a,H b=some f->M.pl b=some a->a.real->a.bV≠g:=λb f a h d l=>by
  obtain⟨m2,h1,x⟩:=r.obj b f h;rw[d] at h1;cases h1;have:=x.lt l;omega
 refine⟨⟨λb f h=>let ⟨a,d,z⟩:=k.fq.obj b f h;⟨a,d,z.mono hle λ_=>rfl⟩,k.fq.inj,λb q v h=>?_,λb f a h hw d l j y=>?_,λb c xs e a h d l=>(k.fq.IZ b c xs e a h d l).mono hle.2,k.fq.lM⟩,
  λ_ _=>rfl,hle.2,λb q h=>?_,k.size,k.aN,k.born,k.Lw,k.os,k.tape,k.output,k.le⟩
 ·replace h:cY M.sg g o (aW c xs) b q=some v:=h;unfold cY at h;split at h
  ·rename_i t
   obtain⟨rfl,h1,x⟩:=t;obtain⟨m,p,e2⟩:=s _ v h;rw[show o+(q-o)=q by omega] at p;exact⟨(dR gE (ZaJ h)).2,m,p,e2.mono hle⟩
  ·obtain⟨A,m,p,e2⟩:=k.fq.gj b q v h;exact⟨A,m,p,e2.mono hle⟩
 ·show cY M.sg g o (aW c xs) a.bV j=none
  unfold cY;rw[Zaa λq=>u b f a h d l q.1];exact k.fq.sep b f a h hw d l j y
 ·grind [lV]
theorem JK {α:Type} {c:Nat} {f:D.E c->α} {bd:α->List Value}:∀{xs:List (D.E c)},(∀x∈xs,LR M (D.bd c x) (bd (f x)))->LR M (aW c xs) ((xs.map f).flatMap bd)
 | [],_=>.nil
 | x::xs,h=>(h x (by simp)).app (JK (xs:=xs) λy a=>h y (by grind))
def LR.cell {v:List Value} (h:LR M l v) (e:l[g]?=some a):∃b,v[g]?=some b/\VR M a b:=h.get e
def fk {M:Pm D} {k:IntKind} {n:Int} {v:Value} (h:VR M (.int k n) v):v=.int k n:=by cases h;rfl
theorem oN (f:dQ M H w) {b:Nat} {cs:List (AV D.E)} {e:TypeId} {ro:Bool} (g:H b=some (.cells cs e ro)) {c:MI} (j:M.pl b=some c):
  c.real/\c.sh=0/\c.p_=cs.length/\∃C a,w.heap[c.bV]?=some (.cells C e a)/\LR M cs C.toList/\(ro=false->a.1=a.2\/cs.length<=a.1/\c.iN=1):=by
 obtain⟨l,d,⟨k,hs,ht⟩,C,a,h1,n,o,p,q⟩:=f.obj b _ g;rw[j] at d;cases d;refine⟨k,hs,ht,C,a,h1,⟨(by grind),λi v r m e2=>?_⟩,λh=>by grind⟩;grind
end sx
set_option maxRecDepth 100000
set_option maxHeartbeats 4000000
namespace sx
noncomputable section
open Go Go.RowKit cls syn
def sbF (n:Nat) (y:Rh):By:=[b8 y.a,b8 y.b,b8 y.c,b8 y.d].take n
def Ri (n:Nat):br D:=⟨99,Rh,λa s=>match a with
 | [p]=>match p with
  | .sub b _ m=>bE (Nat.beq m n) (Ql4 (.ptr b 0) s) .fail
  | _=>.fail
 | _=>.fail,λ_=>True,λ_=>[.sub 0 0 n],dcO,λy=>.tuple [.int .i32 (cr (sbF n y)).1,QsE (cr (sbF n y)).2,.bool (gF (sbF n y))],dcO,1,1⟩
def Xy {n:Nat} (h:n<=4) (y:Rh):(sbF n y).length=n:=by unfold sbF;rw[Zar];exact Zbj h
theorem QcM {M e:Pm D} {k d:IntKind} {a b:Int} {c:Bool} {v:Value} (h:VR M (.tuple [.int k a,.int d b,.bool c]) v):VR e (.tuple [.int k a,.int d b,.bool c]) v:=by
 cases h with
 | tuple hl n=>
  rename_i l
  obtain⟨l⟩:=l;obtain⟨r,o,rfl,h1,f⟩:=LR.bD (M:=M) ⟨hl,n⟩;obtain⟨s,p,rfl,g,i⟩:=f.bD;obtain⟨v3,q,rfl,j,m⟩:=i.bD;obtain rfl:=m.kW;cases h1 with
  | int i1=>cases g with
   | int i2=>cases j;exact VR.CD (.cons (.int i1) (.cons (.int i2) (.cons (.bool c) .nil)))
theorem JL (n:Nat) (h1:1<=n) (P:n<=4):Ok (Ri n):=by
 refine⟨⟨f99,_,by kernel_rfl,cH (by kernel_rfl)⟩,λy hy M A w Q p _ R S=>?_⟩;obtain⟨v,rfl,U⟩:=wX Q;have t:∃k cap,M.pl 0=some k/\v=.slice (some ⟨k.bV,k.sh,none⟩) n cap/\n<=cap:=by
  cases U with
  | sub h N B G=>exact⟨_,_,h,rfl,B⟩
  | oh=>omega
 obtain⟨k,cap,G,rfl,L⟩:=t;obtain⟨N,hs,ht,C,fz,hC,hl,T⟩:=oN p (b:=0) rfl G;have H:∀j,M.sg k.bV j=none:=λj=>p.sep 0 _ k (show cq (dcO y) 0=_ from rfl) rfl G N j trivial
 let l:By:=sbF n y
 let x:Pm D:=⟨λ_=>none,cY M.sg k.bV 0 (aW (D:=D) 0 l)⟩
 have s:Fu M x:=kb λo _ _=>H o
 have r:aW (D:=D) 0 l=([AV.int .u8 y.a,.int .u8 y.b,.int .u8 y.c,.int .u8 y.d].take n:List (AV D.E)):=by
  obtain⟨v0,r0,Y,i0,hl⟩:=hl.bD;obtain⟨v1,r1,Z,i1,hl⟩:=hl.bD;obtain⟨v2,r2,e2,i2,hl⟩:=hl.bD;obtain⟨v3,r3,e3,i3,hl⟩:=hl.bD;cases i0 with
  | int i0=>cases i1 with
   | int i1=>cases i2 with
    | int i2=>cases i3 with
     | int i3=>
      have f:aW (D:=D) 0 [b8 y.a,b8 y.b,b8 y.c,b8 y.d]=[AV.int .u8 y.a,.int .u8 y.b,.int .u8 y.c,.int .u8 y.d]:=by
       show[AV.int .u8 ((b8 y.a).toNat:Int),.int .u8 ((b8 y.b).toNat:Int),.int .u8 ((b8 y.c).toNat:Int),.int .u8 ((b8 y.d).toNat:Int)]=_
       rw[oF i0,oF i1,oF i2,oF i3];rfl
      have g:=mU (D:=D) gE 0 [b8 y.a,b8 y.b,b8 y.c,b8 y.d] n;rw[f] at g;exact g.trans (by show List.take (n*1) _=_;rw[Zb8])
 have z:dQ x (λ_=>none) w:=⟨λb o h=>(nomatch h),λb X o o' m m' h=>(nomatch h),λb o v h=>by
  replace h:cY M.sg k.bV 0 (aW (D:=D) 0 l) b o=some v:=h;unfold cY at h;split at h
  ·rename_i F
   obtain⟨rfl,_,_⟩:=F;have q:=(dR gE (ZaJ h)).2;rw[r,Za7] at h;split at h
   ·have O:[AV.int (E:=D.E) .u8 y.a,.int .u8 y.b,.int .u8 y.c,.int .u8 y.d,.int .i64 y.n][o]?=some v:=by
     grind
    obtain⟨u,K,a2⟩:=hl.get O;exact⟨q,u,by grind [World.cell?],a2.pure q s⟩
   ·cases h
  ·obtain⟨q,u,K,a2⟩:=p.gj b o v h;exact⟨q,u,K,a2.pure q s⟩,λb o m h=>(nomatch h),λb c xs e m h=>(nomatch h),⟨p.lM.1,λb o m h=>(nomatch h)⟩⟩
 have hlen:l.length=n:=Xy P y;have J:VR x (.list 0 l) (.slice (some ⟨k.bV,k.sh,none⟩) n cap):=by
  rw[hs,<-hlen];exact VR.list (c:=0) (ct.add gE) (by show l.length<=_;omega) (by show l.length<=_;omega)
 refine Bo.2 l trivial x _ w (.cons J .nil) z (λ_ _=>rfl) R λW u V I i=>S M u V (QcM I) ?_
 exact cP.world p i.size (λc B=>i.aN c B λ⟨b,o,m,h,_⟩=>nomatch h) i.os i.tape i.output 1
def Gz (v:nZ) (l:List Gt):nZ:=l.foldl (λv g=>rnF ⟨v,g.1,g.2⟩) v
structure RsY where
 v:nZ
 l:List Gt
def Xz (v:nZ) (N:Int):Prop:=enP v/\v.p.aj.length=v.L.length/\0<=v.aO/\v.aO<=N
theorem QcN {v:nZ} {N:Int} (r n:Int) (h:Xz v N):Xz (rnF ⟨v,r,n⟩) (N+4):=by
 obtain⟨h1,a,d,e⟩:=h;obtain⟨i1,b,g,c⟩:=Bt r h1 v.L.length;have f:0<=rnN n/\rnN n<=4:=by grind [rnN,fK,imax]
 exact⟨i1,by show(qA v r v.L.length).p.aj.length=(qA v r v.L.length).L.length;rw[b,c];exact a,by show 0<=v.aO+rnN n;omega,by show v.aO+rnN n<=N+4;omega⟩
theorem zL {v:nZ} {l:List Gt} {x:Nat} (h:x<l.length):Gz v (l.take (x+1))=rnF ⟨Gz v (l.take x),l[x].1,l[x].2⟩:=by
 grind [Gz,List.take_append_getElem]
theorem Bu {v:nZ} {N:Int} {l:List Gt} (h:Xz v N):∀x,x<=l.length->Xz (Gz v (l.take x)) (N+4*x)
 | 0,_=>by grind [Gz]
 | x+1,a=>by
  rw[zL (show x<l.length by omega)];have:=QcN (l[x]'ω).1 (l[x]'ω).2 (Bu (l:=l) h x ω);grind
def Mc:br D:=bL 226 Int (λa _=>in1 a) (λ_=>True) (λy=>[.int .i32 y]) λy=>.bool (gX y)
def DI:br D:=bL 201 Int (λa _=>in1 a) (λ_=>True) (λy=>[.int .i32 y]) λy=>.list 6 (dZ y)
def Rj:br D:=bL 200 Unit (λ_ _=>.ret ()) (λ_=>True) (λ_=>[]) λ_=>.list 6 WR
def Qma (args:List (AV D.E)):C (By×By):=match args with
 | [a,b]=>az (gz a) λx=>az (gz b) λz=>.ret (x,z)
 | _=>.fail
def Md:br D:=bL 203 (By×By) (λa _=>Qma a) (λ_=>True) (λy=>[.str y.1,.str y.2]) λy=>.bool (gY y.1 y.2)
def XA (args:List (AV D.E)):C By:=match args with
 | [a]=>az (gz a) λx=>.ret x
 | _=>.fail
def kt (y:By):Prop:=∀c∈y,48<=c.toNat/\c.toNat<=57
def GA:br D:=bL 204 By (λa _=>XA a) kt (λy=>[.str y]) λy=>.tuple [QsE (syn.eg y).1,.bool (syn.eg y).2]
def Qmc (y:GA.Y):cO D:=⟨[],[],[(122,⟨Nat,[0,10],λx=>[(4,QsE (gD (y.take x))),(11,QsE x)],[],λ_=>[],0,λx=>x<=y.length,λx=>y.length-x⟩)],[],1,[]⟩
structure bZ where
 i:Int
 an:Int
 ae:Int
 aq:Int
 wh:Int
def nn (s:bZ):Ps:=⟨s.i.toNat,s.an.toNat,s.ae.toNat,s.aq,s.wh⟩
def zz (s:Ps):bZ:=⟨s.i,s.an,s.ae,s.aq,s.wh⟩
def bM (G:List Gt):List Int:=(List.range G.length).map (aO G)
def psO (G:List Gt) (s:bZ):List (Nat×AO D.E):=[(0,.cells [.list 13 G,.list 5 (bM G),.int .i64 s.i,.int .i64 s.an,.int .i64 s.ae,.int .i64 s.aq,.int .i64 s.wh] 138 false)]
abbrev PS:=List Gt×bZ
def QcO (v:AV D.E) (s:St D.E):C PS:=match v with
 | .ptr b _=>az (cN (s.h.get b)) λo=>match o with
  | .cells cs _ _=>match cs with
   | [l,_,i,o,g,e,w]=>az (aU D s 13 l) λl=>aL (cA i) λ_ i=>aL (cA o) λ_ o=>aL (cA g) λ_ g=>aL (cA e) λ_ e=>aL (cA w) λ_ w=>.ret ((l:List Gt),⟨i,o,g,e,w⟩)
   | _=>.fail
  | _=>.fail
 | _=>.fail
def Me (args:List (AV D.E)) (s:St D.E):C PS:=match args with
 | [p]=>QcO p s
 | _=>.fail
def Rk (args:List (AV D.E)) (s:St D.E):C (PS×Int):=match args with
 | [p,a]=>az (QcO p s) λy=>aL (cA a) λ_ n=>.ret (y,n)
 | _=>.fail
def QcP (args:List (AV D.E)) (s:St D.E):C (PS×Int×Int):=match args with
 | [p,a,b]=>az (QcO p s) λy=>aL (cA a) λ_ m=>aL (cA b) λ_ n=>.ret (y,m,n)
 | _=>.fail
def bs (y:PS):Prop:=y.1.length<=4096/\(0<=y.2.i/\y.2.i<=y.1.length)/\(0<=y.2.an/\y.2.an<=20)/\(0<=y.2.ae/\y.2.ae<=4)/\Fx y.1
abbrev wY (f:FuncId) (Y:Type) (a:Y->PS) (ya:List (AV D.E)->St D.E->C Y) (pre:Y->Prop) (args:Y->List (AV D.E)) (out:Y->bZ) (res:Y->AV D.E):br D:=⟨f,Y,ya,λy=>bs (a y)/\pre y,λy=>.ptr 0 0::args y,λy=>psO (a y).1 (a y).2,res,λy=>psO (a y).1 (out y),1,1⟩
variable {G:List Gt} {s:Ps} {i:Nat} {l:List (List Nd)}
def V':br D:=wY 140 (PS×Int) (·.1) Rk (λ_=>True) (λy=>[.int .i32 y.2]) (λy=>y.1.2) λy=>.bool (a8 y.1.1 (nn y.1.2) y.2)
def sV:br D:=wY 101 (PS×Int) (·.1) Rk (λ_=>True) (λy=>[.int .i32 y.2]) (λy=>zz (bj y.1.1 (nn y.1.2) y.2)) λy=>.bool (a8 y.1.1 (nn y.1.2) y.2)
def yr:br D:=wY 196 (PS×Int) (·.1) Rk (λy=>0<=y.2/\y.2<y.1.1.length) (λy=>[QsE y.2]) (λy=>y.1.2) λy=>.bool (eQ y.1.1 y.2.toNat)
def pR:br D:=wY 60 (PS×Int×Int) (·.1) QcP (λy=>0<=y.2.1/\y.2.1<y.1.1.length) (λy=>[QsE y.2.1,QsE y.2.2]) (λy=>zz ((nn y.1.2).ax y.1.1 y.2.1.toNat y.2.2)) λ_=>.dd
def Qmh (args:List (AV D.E)) (s:St D.E):C (Int×List (List Nd)):=match args with
 | [a,b]=>aL (cA a) λ_ n=>az (aU D s 9 b) λl=>.ret (n,(l:List (List Nd)))
 | _=>.fail
def yu:br D:=bL 102 (Int×List (List Nd)) Qmh (λy=>total y.2<=100000/\y.2.length<=100000) (λy=>[QsE y.1,.list 9 y.2]) λy=>.list 7 (bU y.1 y.2)
def Qmi (y:yu.Y):cO D:=⟨[],[],[(122,⟨Nat,[24,25],λx=>[(5,.grow 7 ({ nd y.1 with af:=y.2.length }::(y.2.take x).flatten) 0),(26,QsE x)],[],λ_=>[(0,.tok 7 152)],1,λx=>x<=y.2.length,λx=>y.2.length-x⟩)],[],1,[]⟩
def Rp (y:Int):Prop:=let a:Prop:=(ak (aH 123 y) (aH y 126=gX y/\True) (false=gX y/\True));let q1:Prop:=(ak (aH 91 y) (ak (aH y 96) (true=gX y/\True) (a)) (a));let b:Prop:=(ak (aH 58 y) (ak (aH y 64) (true=gX y/\True) (q1)) (q1));ak (aH 33 y) (ak (aH y 47) (true=gX y/\True) (b)) (b)
def Rq (y:Int):Prop:=let a:=([(y,y)]:List (Int×Int));Iv (a.length<=100000000)/\aa [a] (aV a=dZ y/\True)
def Rr (y:Unit):Prop:=Iv (1<=1000000)/\aa ([[(10,10)]]:List (List (Int×Int))) (kQ [(10,10)]=WR/\True)
def Rs (y:(List UInt8)×(List UInt8)):Prop:=let a:=gY y.1 y.2;let q1:=ay (dL y.1) (dL y.2);let b:=aC (dL y.1) (dL y.2);ak q1 (true=a/\True) (ak b (slt y.1 y.2=a/\True) (false=a/\True))
def JM (y:List UInt8):Prop:=ak (ay 2 (dL y)) (0=(eg y).1/\false=(eg y).2/\True) ((∃z:Nat,RAM y (dL y) (0=gD (List.take z y)/\0=(z:Int)/\(Iv (z<=y.length))))/\(∀x:Nat,let a:=y.length;let q1:=gD (List.take x y);let b:=ay (x:Int) (dL y);(Iv (x<=a))->ak b (aH 0 (x:Int)/\b/\∃z:Nat,RAM y (dL y) (aw .i64 (iB .i64 10 q1) (vz .i64 (cF .u8 (sat y (x:Int)) 48))=gD (List.take z y)/\aw .i64 (x:Int) 1=(z:Int)/\(Iv (z<=a/\(a-z)<(a-x))))) (q1=(eg y).1/\aH q1 30=(eg y).2/\True)))
def QcQ (y:((List (Int×Int))×bZ)×Int):Prop:=let a:=ay y.1.2.i (ag y.1.1);let q1:=a8 y.1.1 (nn y.1.2) y.2;let b:=(gt (0,0) y.1.1 y.1.2.i.toNat).1;let c:Prop:=(aa [y.1.1] (aa [bM y.1.1] (aa [y.1.2.i,y.1.2.an,y.1.2.ae,y.1.2.aq,y.1.2.wh] (True))));ak a (aH 0 y.1.2.i/\a/\aa [y.1.2.i] (aa [y.1.1,y.1.1] (aa [y.1.2.i,b] (aC b y.2=q1/\c)))) (aa [y.1.2.i] (aa [y.1.1] (false=q1/\c)))
def Rt (y:((List (Int×Int))×bZ)×Int):Prop:=let a:=a8 y.1.1 (nn y.1.2) y.2;let q1:=bj y.1.1 (nn y.1.2) y.2;let b:=((q1.i:Nat):Int);let c:Prop:=(y.1.2.an=((q1.an:Nat):Int)/\y.1.2.ae=((q1.ae:Nat):Int)/\y.1.2.aq=q1.aq/\y.1.2.wh=q1.wh/\True);Iv (bs (y.1.1,y.1.2)/\True)/\aa [y.2] (aa [y.1.1] (aa [bM y.1.1] (aa [y.1.2.i,y.1.2.an,y.1.2.ae,y.1.2.aq,y.1.2.wh] (ak a (true=a/\aa [y.1.1] (aa [bM y.1.1] (aw .i64 y.1.2.i 1=b/\c))) (false=a/\aa [y.1.1] (aa [bM y.1.1] (y.1.2.i=b/\c)))))))
def Ru (y:((List (Int×Int))×bZ)×Int):Prop:=let a:=eQ y.1.1 y.2.toNat;let q1:=gt (0,0) y.1.1 y.2.toNat;let b:Prop:=(aa [y.1.1] (aa [bM y.1.1] (aa [y.1.2.i,y.1.2.an,y.1.2.ae,y.1.2.aq,y.1.2.wh] (True))));aH 0 y.2/\ay y.2 (ag y.1.1)/\ak (aC q1.1 65533) (aH 0 y.2/\ay y.2 (ag y.1.1)/\aC q1.2 1=a/\b) (false=a/\b)
def Rv (y:((List (Int×Int))×bZ)×Int×Int):Prop:=let a:=bM y.1.1;let q1:=Ps.ax y.1.1 (nn y.1.2) y.2.1.toNat y.2.2;ak (aC y.1.2.aq 0) (aH 0 y.2.1/\ay y.2.1 (ag a)/\aa [y.1.1] (aa [a] (y.1.2.i=((q1.i:Nat):Int)/\y.1.2.an=((q1.an:Nat):Int)/\y.1.2.ae=((q1.ae:Nat):Int)/\y.2.2=q1.aq/\gt 0 a y.2.1.toNat=q1.wh/\True))) (aa [y.1.1] (aa [a] (y.1.2.i=((q1.i:Nat):Int)/\y.1.2.an=((q1.an:Nat):Int)/\y.1.2.ae=((q1.ae:Nat):Int)/\y.1.2.aq=q1.aq/\y.1.2.wh=q1.wh/\True)))
def JN (y:Int×(List (List Nd))):Prop:=let a:=ag y.2;let q1:=y.2.length;let b:=bU y.1 y.2;let c:=Nd.mk y.1 [] 0 0 false 0 (q1:Int);ak (aC a 0) (([Nd.mk 1 [] 0 0 false 0 0]:List Nd)=b/\True) (ak (aC a 1) (Tt 1 (ay 0 a/\gt [] y.2 0=b/\True)) ((∃z:Nat,aa [y.2] (aa [a] (([Nd.mk y.1 [] 0 0 false 0 a]:List Nd)=(c::(List.flatten (List.take z y.2)))/\0=(z:Int)/\(Iv (z<=q1)))))/\(∀x:Nat,let d:=(c::(List.flatten (List.take x y.2)));let e:=bC d (gt [] y.2 (x:Int).toNat);(Iv (x<=q1))->ak (ay (x:Int) a) (aH 0 (x:Int)/\ay (x:Int) a/\bx (ag e) 72/\∃z:Nat,aa [y.2] (aa [a] (e=(c::(List.flatten (List.take z y.2)))/\aw .i64 (x:Int) 1=(z:Int)/\(Iv (z<=q1/\(q1-z)<(q1-x)))))) (d=b/\True))))
theorem Qf1 (y:Int) (a:Mc.pre y):Rp y:=by
 grind [Rp,gX]
def Qf2:Ok Mc:=okZ [] f226 (λ_=>ew ()) trivial Qf1
def Qmk (y:Int) (a:DI.pre y):Rq y:=by
 unfold Rq;simp only[ie,Zai];exact⟨⟨by simp⟩,rfl⟩
def Qav (a:Ok dr):Ok DI:=okZ [dr] f201 (λ_=>ew ()) a Qmk
def Qml (y:Unit) (a:Rj.pre y):Rr y:=by
 unfold Rr;simp only[ie,Zai];exact⟨⟨ω⟩,rfl⟩
theorem Qmm (y:By×By) (a:Md.pre y):Rs y:=by
 unfold Rs;simp only[bI,fU,lb];unfold gY;refine⟨λh=>?_,λh=>⟨λb=>?_,λb=>?_⟩⟩
 ·grind
 ·rw[ZaN (show ¬y.1.length<y.2.length by omega),show(y.1.length==y.2.length)=true by grind,bytesLess_eq];rfl
 ·grind
def Qf3:Ok Md:=okZ [] f203 (λ_=>ew ()) trivial Qmm
theorem Rw (r:Int) (h:s.i<G.length):a8 G s r=decide ((G.getD s.i (0,0)).1=r):=by
 grind [a8]
theorem Bv (r:Int) (h:G.length<=s.i):a8 G s r=false:=by
 grind [a8]
theorem z_n {s:bZ} (h:0<=s.i) (a:0<=s.an) (b:0<=s.ae):zz (nn s)=s:=by
 obtain⟨i,o,g,e,w⟩:=s;simp only at h a b;unfold zz nn;grind
def isH (y:PS×Int) (b:V'.pre y):QcQ y:=by
 obtain⟨⟨h1,a,_⟩,_⟩:=b;have a:0<=y.1.2.i/\y.1.2.i<=y.1.1.length:=a;unfold QcQ;simp only[fU,gk,oG,km,av,gt];refine⟨λh=>⟨a.1,h,?_⟩,λh=>?_⟩
 ·rw[Rw (s:=nn y.1.2) y.2 (show y.1.2.i.toNat<y.1.1.length by omega)];rfl
 ·rw[Bv (s:=nn y.1.2) y.2 (show y.1.1.length<=y.1.2.i.toNat by omega)]
def isOk:Ok V':=okZ [] f140 (λ_=>ew ()) trivial isH
theorem Qmn (y:PS×Int) (d:sV.pre y):Rt y:=by
 obtain⟨h0,_⟩:=d;obtain⟨h1,a,b,c⟩:=id h0;have h1:y.1.1.length<=4096:=h1;have a:0<=y.1.2.i/\y.1.2.i<=y.1.1.length:=a;have hz:=z_n (s:=y.1.2) a.1 b.1 c.1.1;unfold Rt;simp only[fU];refine⟨⟨h0⟩,λh=>?_,λh=>?_⟩
 ·unfold bj;rw[Zac h,h];refine⟨rfl,?_,ZaR bZ.an hz.symm,ZaR bZ.ae hz.symm,rfl,rfl⟩;rw[ba ω ω];show _=((y.1.2.i.toNat+1:Nat):Int)
  omega
 ·unfold bj;rw[Zaa (by grind),h];exact⟨rfl,ZaR bZ.i hz.symm,ZaR bZ.an hz.symm,ZaR bZ.ae hz.symm,rfl,rfl⟩
def zM:Ok sV:=okZ [V'] f101 (λ_=>ew ()) isOk Qmn
theorem JO (h:i<G.length):eQ G i=(decide ((G.getD i (0,0)).1=65533)&&decide ((G.getD i (0,0)).2=1)):=by
 grind [eQ]
theorem Qmo (y:PS×Int) (b:yr.pre y):Ru y:=by
 obtain⟨_,h1,a⟩:=b;have h1:0<=y.2:=h1;have a:y.2<y.1.1.length:=a;unfold Ru;simp only[bI,fU,av,gt];grind [JO]
def Rx:Ok yr:=okZ [] f196 (λ_=>ew ()) trivial Qmo
theorem wZ (G:List Gt):(bM G).length=G.length:=by grind [bM]
theorem JP (h:i<G.length) (d:Int):(bM G).getD i d=aO G i:=by
 grind [bM]
def Qmp (y:PS×Int×Int) (d:pR.pre y):Rv y:=by
 obtain⟨⟨_,g2,g3,g4⟩,h1,a⟩:=d;have h1:0<=y.2.1:=h1;have a:y.2.1<y.1.1.length:=a;have hz:=z_n (s:=y.1.2) g2.1 g3.1 g4.1.1;have b:=ZaR bZ.i hz.symm;have e2:=ZaR bZ.an hz.symm;have c:=ZaR bZ.ae hz.symm;unfold Rv;simp only[bI,fU,av,gt,wZ];rw[JP (show y.2.1.toNat<y.1.1.length by omega)];unfold Ps.ax;refine⟨λh=>?_,λh=>?_⟩
 ·rw[Zac (show(nn y.1.2).aq=0 from h)];exact⟨h1,a,b,e2,c,rfl,rfl⟩
 ·rw[Zaa (show ¬(nn y.1.2).aq=0 from h)];exact⟨b,e2,c,rfl,rfl⟩
def tQ:Ok pR:=okZ [] f60 (λ_=>ew ()) trivial Qmp
theorem XK (i:Nat):(l.take i).flatten.length<=total l:=by
 grind [total,List.take_append_drop]
theorem zN (h:i<l.length):(l.take i).flatten++l.getD i []=(l.take (i+1)).flatten:=by
 grind [List.take_succ]
theorem Qf4 (y:Int×List (List Nd)) (f:yu.pre y):JN y:=by
 obtain⟨op,l⟩:=y;obtain⟨h1,g⟩:total l<=100000/\l.length<=100000:=f;unfold JN;simp only[bI,fU,av,gt,a7,bm,Zad];refine⟨λh=>?_,λh=>⟨λc=>⟨ω,?_⟩,λc=>⟨⟨0,rfl,rfl,⟨ω⟩⟩,λx e=>⟨λd=>⟨ω,d,?_,x+1,?_,ba ω ω,⟨⟨ω,ω⟩⟩⟩,λd=>?_⟩⟩⟩⟩
 ·obtain rfl:l=[]:=Zap ω;rfl
 ·obtain⟨a,rfl⟩:=List.length_eq_one_iff.1 (show l.length=1 by omega);rfl
 ·grind [XK,zN]
 ·grind [zN]
 ·have e:=e.out;rw[ZaA ω]
  match l,h,c with
  | [],h,_=>exact absurd rfl h
  | [a],_,c=>exact absurd rfl c
  | a::b::t,_,_=>rfl
def Qaw:Ok yu:=okZ [] f102 Qmi trivial Qf4
theorem Ry {y:By} (h:i<y.length):gD (y.take (i+1))=10*gD (y.take i)+(((y.getD i 0).toNat:Int) -48):=by
 grind [gD,List.take_succ]
theorem QcS {y:By} (h:kt y) (hl:y.length<=2):0<=gD y/\gD y<=99:=by
 match y,h,hl with
 | [],_,_=>simp[gD]
 | [a],h,_=>
  have:=h a (by simp);simp[gD];omega
 | [a,b],h,_=>
  have:=h a (by simp);have:=h b (by simp);simp[gD];omega
theorem Qf5 (y:By) (a:GA.pre y):JM y:=by
 have a:kt y:=a;unfold JM;simp only[fU,gk,oG,km,lb];unfold syn.eg;refine⟨λh=>?_,λh=>⟨⟨0,by rfl,rfl,⟨ω⟩⟩,λx g=>⟨λd=>⟨ω,d,x+1,?_,ba ω ω,⟨⟨ω,ω⟩⟩⟩,λd=>?_⟩⟩⟩
 ·grind
 ·have b:x<y.length:=ω;rw[Ry b];have e:=a (y.getD x 0) (by grind);have f:=QcS (y:=y.take x) (λc e=>a c (Zcg e)) (by grind);have es:sat y (x:Int)=((y.getD x 0).toNat:Int):=by rfl
  grind [cF,dw,cE,Ch,sw,vz]
 ·grind
def Qf6:Ok GA:=okZ [] f204 Qmc trivial Qf5
def Qax (k:PS->Bool) (args:List (AV D.E)) (s:St D.E):C (PS×Bool):=az (Me args s) λp=>.split (k p) (.ret (p,true)) (.ret (p,false))
def DJ (y:PS):Bool:=decide ((dT y.1 (nn y.2)).2.1=[])
def Qf7 (z:Bool) (l:List Rg) (b:Bool):AV D.E:=match z with
 | true=>.tuple [.dd,.bool false]
 | false=>.tuple [.list 6 l,.bool b]
def GB (y:PS×Bool):Prop:=y.1.2.i<y.1.1.length/\y.2=DJ y.1
def yv:br D:=wY 199 (PS×Bool) (·.1) (Qax DJ) GB (λ_=>[]) (λy=>zz (dT y.1.1 (nn y.1.2)).1) λy=>Qf7 y.2 (dT y.1.1 (nn y.1.2)).2.1 (dT y.1.1 (nn y.1.2)).2.2
def w6 (y:PS):Bool:=decide ((bX y.1 (nn y.2)).2.1=[])
def Mf (y:PS×Bool):Prop:=y.1.2.i<y.1.1.length/\y.2=w6 y.1
def GC:br D:=wY 237 (PS×Bool) (·.1) (Qax w6) Mf (λ_=>[]) (λy=>zz (bX y.1.1 (nn y.1.2)).1) λy=>Qf7 y.2 (bX y.1.1 (nn y.1.2)).2.1 (bX y.1.1 (nn y.1.2)).2.2
def GD (y:(List (Int×Int))×bZ):Prop:=let j:=(y.1.length:Int);let q1:=aw .i64 y.2.i 1;let e:=(dT y.1 (nn y.2)).1;let n:=aw .i64 q1 1;let o:=eQ y.1 q1.toNat;let k:=((e.ae:Nat):Int);let l:=((e.an:Nat):Int);let m:=((e.i:Nat):Int);let q:=aH (ag y.1) q1;let h:=bZ.mk q1 y.2.an y.2.ae y.2.aq y.2.wh;let a:=(gt (0,0) y.1 q1.toNat).1;let g:=bZ.mk n y.2.an y.2.ae y.2.aq y.2.wh;let b:=Ps.ax y.1 (nn h) y.2.i.toNat 4;let c:=Ps.ax y.1 (nn h) q1.toNat 4;let d:=Ps.ax y.1 (nn g) y.2.i.toNat 4;let f:=λp:Prop=>aa [y.1] (aa [bM y.1] p);aa [q1] (aa [y.1] (ak q (Iv (bs (y.1,h)/\0<=y.2.i/\y.2.i<j)/\aa ([y.2.i,4]:List Int) (aa [y.1] (aa [bM y.1] (aa [q1,y.2.an,y.2.ae,y.2.aq,y.2.wh] (false=false/\f (((b.i:Nat):Int)=m/\((b.an:Nat):Int)=l/\((b.ae:Nat):Int)=k/\b.aq=e.aq/\b.wh=e.wh/\True)))))) (Iv (bs (y.1,h)/\0<=q1/\q1<j)/\aa [q1] (aa [y.1] (aa [bM y.1] (aa [q1,y.2.an,y.2.ae,y.2.aq,y.2.wh] (ak o (Iv (bs (y.1,h)/\0<=q1/\q1<j)/\aa ([q1,4]:List Int) (aa [y.1] (aa [bM y.1] (aa [q1,y.2.an,y.2.ae,y.2.aq,y.2.wh] (false=false/\f (((c.i:Nat):Int)=m/\((c.an:Nat):Int)=l/\((c.ae:Nat):Int)=k/\c.aq=e.aq/\c.wh=e.wh/\True)))))) (aH 0 q1/\ay q1 (ag y.1)/\aa [y.1] (aa [q1,a] (ak (aC a 110) (Iv True/\aa ([10]:List Int) (False)) (ak (aC a 116) (Iv True/\aa ([9]:List Int) (False)) (ak (aC a 114) (Iv True/\aa ([13]:List Int) (False)) (ak (aC a 100) (Iv (1<=100000000)/\aa ([[(48,57)]]:List (List (Int×Int))) (False)) (ak (aC a 115) (Iv (3<=100000000)/\aa ([[(9,10),(13,13),(32,32)]]:List (List (Int×Int))) (False)) (ak (aC a 119) (Iv (4<=100000000)/\aa ([[(48,57),(65,90),(95,95),(97,122)]]:List (List (Int×Int))) (False)) (Iv True/\aa [a] (ak (!(gX a)) (Iv (bs (y.1,g)/\0<=y.2.i/\y.2.i<j)/\aa ([y.2.i,4]:List Int) (aa [y.1] (aa [bM y.1] (aa [n,y.2.an,y.2.ae,y.2.aq,y.2.wh] (false=false/\f (((d.i:Nat):Int)=m/\((d.an:Nat):Int)=l/\((d.ae:Nat):Int)=k/\d.aq=e.aq/\d.wh=e.wh/\True)))))) (Iv True/\aa [a] (False)))))))))))))))))))
def GF (y:(List (Int×Int))×bZ):Prop:=let l:=(y.1.length:Int);let q1:=dT y.1 (nn y.2);let b:=aw .i64 y.2.i 1;let q:=aw .i64 b 1;let r:=eQ y.1 b.toNat;let m:=((q1.1.ae:Nat):Int);let h:=q1.2.1;let n:=((q1.1.i:Nat):Int);let o:=((q1.1.an:Nat):Int);let s:=aH (ag y.1) b;let d:=bZ.mk b y.2.an y.2.ae y.2.aq y.2.wh;let a:=(gt (0,0) y.1 b.toNat).1;let k:=bZ.mk q y.2.an y.2.ae y.2.aq y.2.wh;let e:=Ps.ax y.1 (nn d) y.2.i.toNat 4;let f:=Ps.ax y.1 (nn k) y.2.i.toNat 4;let g:=Ps.ax y.1 (nn d) b.toNat 4;let j:=λp:Prop=>aa [y.1] (aa [bM y.1] p);let c:Prop:=(j (q=n/\y.2.an=o/\y.2.ae=m/\y.2.aq=q1.1.aq/\y.2.wh=q1.1.wh/\True));aa [b] (aa [y.1] (ak s (Iv (bs (y.1,d)/\0<=y.2.i/\y.2.i<l)/\aa ([y.2.i,4]:List Int) (aa [y.1] (aa [bM y.1] (aa [b,y.2.an,y.2.ae,y.2.aq,y.2.wh] ([]=h/\false=q1.2.2/\j (((e.i:Nat):Int)=n/\((e.an:Nat):Int)=o/\((e.ae:Nat):Int)=m/\e.aq=q1.1.aq/\e.wh=q1.1.wh/\True)))))) (Iv (bs (y.1,d)/\0<=b/\b<l)/\aa [b] (aa [y.1] (aa [bM y.1] (aa [b,y.2.an,y.2.ae,y.2.aq,y.2.wh] (ak r (Iv (bs (y.1,d)/\0<=b/\b<l)/\aa ([b,4]:List Int) (aa [y.1] (aa [bM y.1] (aa [b,y.2.an,y.2.ae,y.2.aq,y.2.wh] ([]=h/\false=q1.2.2/\j (((g.i:Nat):Int)=n/\((g.an:Nat):Int)=o/\((g.ae:Nat):Int)=m/\g.aq=q1.1.aq/\g.wh=q1.1.wh/\True)))))) (aH 0 b/\ay b (ag y.1)/\aa [y.1] (aa [b,a] (ak (aC a 110) (Iv True/\aa ([10]:List Int) (dZ 10=h/\true=q1.2.2/\c)) (ak (aC a 116) (Iv True/\aa ([9]:List Int) (dZ 9=h/\true=q1.2.2/\c)) (ak (aC a 114) (Iv True/\aa ([13]:List Int) (dZ 13=h/\true=q1.2.2/\c)) (ak (aC a 100) (Iv (1<=100000000)/\aa ([[(48,57)]]:List (List (Int×Int))) (aV [(48,57)]=h/\false=q1.2.2/\c)) (ak (aC a 115) (Iv (3<=100000000)/\aa ([[(9,10),(13,13),(32,32)]]:List (List (Int×Int))) (aV [(9,10),(13,13),(32,32)]=h/\false=q1.2.2/\c)) (ak (aC a 119) (Iv (4<=100000000)/\aa ([[(48,57),(65,90),(95,95),(97,122)]]:List (List (Int×Int))) (aV [(48,57),(65,90),(95,95),(97,122)]=h/\false=q1.2.2/\c)) (Iv True/\aa [a] (ak (!(gX a)) (Iv (bs (y.1,k)/\0<=y.2.i/\y.2.i<l)/\aa ([y.2.i,4]:List Int) (aa [y.1] (aa [bM y.1] (aa [q,y.2.an,y.2.ae,y.2.aq,y.2.wh] ([]=h/\false=q1.2.2/\j (((f.i:Nat):Int)=n/\((f.an:Nat):Int)=o/\((f.ae:Nat):Int)=m/\f.aq=q1.1.aq/\f.wh=q1.1.wh/\True)))))) (Iv True/\aa [a] (dZ a=h/\true=q1.2.2/\c)))))))))))))))))))
def GG (y:(List (Int×Int))×bZ):Prop:=let g:=y.2.i.toNat;let q1:=(y.1,y.2);let e:=(dT y.1 (nn y.2)).1;let a:=(bX y.1 (nn y.2)).1;let h:=((a.an:Nat):Int);let j:=((a.ae:Nat):Int);let k:=((a.i:Nat):Int);let f:=Ps.ax y.1 (nn y.2) g 4;let c:=(gt (0,0) y.1 g).1;let l:=λp:Prop=>aa [y.1] (aa [bM y.1] (aa [y.2.i,y.2.an,y.2.ae,y.2.aq,y.2.wh] p));let d:=λp:Prop=>aa [y.1] (aa [bM y.1] p);let b:Prop:=(false=false/\d (y.2.i=k/\y.2.an=h/\y.2.ae=j/\y.2.aq=a.aq/\y.2.wh=a.wh/\True));Iv (bs q1/\0<=y.2.i/\y.2.i<(y.1.length:Int))/\aa [y.2.i] (aa [y.1] (aa [bM y.1] (aa [y.2.i,y.2.an,y.2.ae,y.2.aq,y.2.wh] (ak (eQ y.1 g) (Iv (bs q1/\0<=y.2.i/\y.2.i<(y.1.length:Int))/\aa ([y.2.i,4]:List Int) (aa [y.1] (aa [bM y.1] (aa [y.2.i,y.2.an,y.2.ae,y.2.aq,y.2.wh] (false=false/\d (((f.i:Nat):Int)=k/\((f.an:Nat):Int)=h/\((f.ae:Nat):Int)=j/\f.aq=a.aq/\f.wh=a.wh/\True)))))) (aH 0 y.2.i/\ay y.2.i (ag y.1)/\aa [y.1] (aa [y.2.i,c] (ak (aC c 92) (ak (DJ q1) (Iv (bs q1/\GB (q1,true))/\l (false=false/\d (((e.i:Nat):Int)=k/\((e.an:Nat):Int)=h/\((e.ae:Nat):Int)=j/\e.aq=a.aq/\e.wh=a.wh/\True))) (Iv (bs q1/\GB (q1,false))/\l (False))) (ak (aC c 91) (ak (aC c 91) (b) (False)) (ak (aC c 93) (ak (aC c 93) (b) (False)) (ak (aC c 45) (b) (False)))))))))))
def GH (y:(List (Int×Int))×bZ):Prop:=let l:=y.2.i.toNat;let q1:=dT y.1 (nn y.2);let a:=bX y.1 (nn y.2);let f:=(y.1,y.2);let m:=((a.1.ae:Nat):Int);let n:=((a.1.an:Nat):Int);let k:=((a.1.i:Nat):Int);let j:=Ps.ax y.1 (nn y.2) l 4;let b:=(gt (0,0) y.1 l).1;let o:=λp:Prop=>aa [y.1] (aa [bM y.1] (aa [y.2.i,y.2.an,y.2.ae,y.2.aq,y.2.wh] p));let c:=λp:Prop=>aa [y.1] (aa [bM y.1] p);let g:Prop:=(y.2.an=n/\y.2.ae=m/\y.2.aq=a.1.aq/\y.2.wh=a.1.wh/\True);let d:Prop:=([]=a.2.1/\false=a.2.2/\c (y.2.i=k/\g));let h:Prop:=(c (((q1.1.i:Nat):Int)=k/\((q1.1.an:Nat):Int)=n/\((q1.1.ae:Nat):Int)=m/\q1.1.aq=a.1.aq/\q1.1.wh=a.1.wh/\True));let e:Prop:=(([(b,b)]:List (Int×Int))=a.2.1/\true=a.2.2/\c (aw .i64 y.2.i 1=k/\g));Iv (bs f/\0<=y.2.i/\y.2.i<(y.1.length:Int))/\aa [y.2.i] (aa [y.1] (aa [bM y.1] (aa [y.2.i,y.2.an,y.2.ae,y.2.aq,y.2.wh] (ak (eQ y.1 l) (Iv (bs f/\0<=y.2.i/\y.2.i<(y.1.length:Int))/\aa ([y.2.i,4]:List Int) (aa [y.1] (aa [bM y.1] (aa [y.2.i,y.2.an,y.2.ae,y.2.aq,y.2.wh] ([]=a.2.1/\false=a.2.2/\c (((j.i:Nat):Int)=k/\((j.an:Nat):Int)=n/\((j.ae:Nat):Int)=m/\j.aq=a.1.aq/\j.wh=a.1.wh/\True)))))) (aH 0 y.2.i/\ay y.2.i (ag y.1)/\aa [y.1] (aa [y.2.i,b] (ak (aC b 92) (ak (DJ f) (Iv (bs f/\GB (f,true))/\o ([]=a.2.1/\false=a.2.2/\h)) (Iv (bs f/\GB (f,false))/\o (q1.2.1=a.2.1/\q1.2.2=a.2.2/\h))) (ak (aC b 91) (ak (aC b 91) (d) (e)) (ak (aC b 93) (ak (aC b 93) (d) (e)) (ak (aC b 45) (d) (e)))))))))))
theorem rO {s:bZ} (h:0<=s.i):nn ⟨s.i+1,s.an,s.ae,s.aq,s.wh⟩=(nn s).next:=by
 unfold nn Ps.next;grind
theorem JQ (a:Fx G) (b:Nat) (hi:i<G.length) (c:gX (aJ G i)\/aJ G i=110\/aJ G i=116\/aJ G i=114\/aJ G i=100\/aJ G i=115\/aJ G i=119) (hw:aV [(48,57),(65,90),(95,95),(97,122)]≠[]):(l0 G s b (aJ G i)).2.1≠[]:=by
 unfold l0
 repeat' split
 ·rw[a.n];simp
 ·rw[a.t];simp
 ·rw[a.r];simp
 ·rw[a.d];simp
 ·exact a.s0
 ·exact hw
 ·rw[a.one i hi];simp
 ·grind
theorem sW (h:G.length<=s.i+1):dT G s=(s.next.ax G s.i 4,[],false):=Zac h
theorem sX (h:s.i+1<G.length) (a:eQ G (s.i+1)):dT G s=(s.next.ax G (s.i+1) 4,[],false):=(Zaa (show ¬G.length<=s.next.i from Nat.not_le.2 h)).trans (Zac a)
theorem w7 (h:s.i+1<G.length) (a:eQ G (s.i+1)=false):dT G s=l0 G s.next.next s.i (aJ G (s.i+1)):=(Zaa (show ¬G.length<=s.next.i from Nat.not_le.2 h)).trans (Zaa (show ¬eQ G s.next.i=true by simp_all))
theorem Qgc (y:PS) (n:yv.pre (y,false)):GF y:=by
 obtain⟨h0,hi,hk⟩:=n;have h0:bs y:=h0;have hi:y.2.i<y.1.length:=hi;obtain⟨c,a2,a3,a4,d⟩:=id h0;have g:aw IntKind.i64 y.2.i 1=y.2.i+1:=ba ω ω;have l:aw IntKind.i64 (y.2.i+1) 1=y.2.i+1+1:=ba ω ω;have j:(y.2.i+1).toNat=(nn y.2).i+1:=by show _=y.2.i.toNat+1;omega
 have f:y.2.i.toNat=(nn y.2).i:=rfl;have m:=rO (s:=y.2) a2.1;have a:=rO (s:=⟨y.2.i+1,y.2.an,y.2.ae,y.2.aq,y.2.wh⟩) (show 0<=y.2.i+1 by omega);unfold GF;simp only[bI,fU,g,l,j,f,m,a,av,gt,Zan,Zao];have o:(y.2.i+1<=y.1.length)->bs (y.1,⟨y.2.i+1,y.2.an,y.2.ae,y.2.aq,y.2.wh⟩):=λh=>⟨c,⟨show 0<=y.2.i+1 by omega,h⟩,a3,a4,d⟩
 have zi:y.2.i+1+1=((nn y.2).next.next.i:Int):=by show _=((y.2.i.toNat+1+1:Nat):Int);omega
 have zo:y.2.an=((nn y.2).next.next.an:Int):=by show _=((y.2.an.toNat:Nat):Int);omega
 have zg:y.2.ae=((nn y.2).next.next.ae:Int):=by show _=((y.2.ae.toNat:Nat):Int);omega
 have p:(nn y.2).i=y.2.i.toNat:=rfl;refine⟨λh=>?_,λh=>⟨⟨o ω,ω,h⟩,λe=>?_,λe=>⟨ω,h,?_⟩⟩⟩
 ·grind [sW]
 ·grind [sX]
 ·rw[w7 ω e];have b:(y.1.getD ((nn y.2).i+1) (0,0)).1=aJ y.1 ((nn y.2).i+1):=rfl;rw[b];generalize aJ y.1 ((nn y.2).i+1)=r;unfold l0;refine⟨λk=>by rw[Zac k];exact⟨⟨trivial⟩,rfl,rfl,zi,zo,zg,rfl,rfl⟩,λk=>?_⟩;rw[Zaa k];refine⟨λk=>by rw[Zac k];exact⟨⟨trivial⟩,rfl,rfl,zi,zo,zg,rfl,rfl⟩,λk=>?_⟩;rw[Zaa k];refine⟨λk=>by rw[Zac k];exact⟨⟨trivial⟩,rfl,rfl,zi,zo,zg,rfl,rfl⟩,λk=>?_⟩;rw[Zaa k];refine⟨λk=>by rw[Zac k];exact⟨⟨ω⟩,rfl,rfl,zi,zo,zg,rfl,rfl⟩,λk=>?_⟩;rw[Zaa k];refine⟨λk=>by rw[Zac k];exact⟨⟨ω⟩,rfl,rfl,zi,zo,zg,rfl,rfl⟩,λk=>?_⟩;rw[Zaa k];refine⟨λk=>by rw[Zac k];exact⟨⟨ω⟩,rfl,rfl,zi,zo,zg,rfl,rfl⟩,λk=>?_⟩;rw[Zaa k];refine⟨⟨trivial⟩,λk=>?_,λk=>?_⟩
  ·rw[Zaa (by grind)];exact⟨⟨⟨c,⟨show 0<=y.2.i+1+1 by omega,show y.2.i+1+1<=(y.1.length:Int) by omega⟩,a3,a4,d⟩,a2.1,hi⟩,rfl,rfl,rfl,rfl,rfl,rfl,rfl⟩
  ·rw[Zac k];exact⟨⟨trivial⟩,rfl,rfl,zi,zo,zg,rfl,rfl⟩
theorem Qgd (y:PS) (n:yv.pre (y,true)):GD y:=by
 obtain⟨h0,hi,hk⟩:=n;have h0:bs y:=h0;have hi:y.2.i<y.1.length:=hi;obtain⟨d,a2,a3,a4,a⟩:=id h0;have g:aw IntKind.i64 y.2.i 1=y.2.i+1:=ba ω ω;have l:aw IntKind.i64 (y.2.i+1) 1=y.2.i+1+1:=ba ω ω;have j:(y.2.i+1).toNat=(nn y.2).i+1:=by show _=y.2.i.toNat+1;omega
 have f:y.2.i.toNat=(nn y.2).i:=rfl;have m:=rO (s:=y.2) a2.1;have b:=rO (s:=⟨y.2.i+1,y.2.an,y.2.ae,y.2.aq,y.2.wh⟩) (show 0<=y.2.i+1 by omega);unfold GD;simp only[bI,fU,g,l,j,f,m,b,av,gt,Zan,Zao];have o:(y.2.i+1<=y.1.length)->bs (y.1,⟨y.2.i+1,y.2.an,y.2.ae,y.2.aq,y.2.wh⟩):=λh=>⟨d,⟨show 0<=y.2.i+1 by omega,h⟩,a3,a4,a⟩
 have zi:y.2.i+1+1=((nn y.2).next.next.i:Int):=by show _=((y.2.i.toNat+1+1:Nat):Int);omega
 have zo:y.2.an=((nn y.2).next.next.an:Int):=by show _=((y.2.an.toNat:Nat):Int);omega
 have zg:y.2.ae=((nn y.2).next.next.ae:Int):=by show _=((y.2.ae.toNat:Nat):Int);omega
 have p:(nn y.2).i=y.2.i.toNat:=rfl;refine⟨λh=>?_,λh=>⟨⟨o ω,ω,h⟩,λe=>?_,λe=>⟨ω,h,?_⟩⟩⟩
 ·grind [sW]
 ·grind [sX]
 ·have hk:(dT y.1 (nn y.2)).2.1=[]:=ZaH hk.symm;rw[w7 ω e] at hk ⊢;have no:=λh=>JQ a (s:=(nn y.2).next.next) (nn y.2).i (i:=(nn y.2).i+1) ω h a.w0 hk
  have c:(y.1.getD ((nn y.2).i+1) (0,0)).1=aJ y.1 ((nn y.2).i+1):=rfl;rw[c];refine⟨λk=>(no (.inr (.inl k))).elim,λk1=>⟨λk=>(no (.inr (.inr (.inl k)))).elim,λk2=>⟨λk=>(no (.inr (.inr (.inr (.inl k))))).elim,λk3=>⟨λk=>(no (.inr (.inr (.inr (.inr (.inl k)))))).elim,λk4=>⟨λk=>(no (.inr (.inr (.inr (.inr (.inr (.inl k))))))).elim,λk5=>⟨λk=>(no (.inr (.inr (.inr (.inr (.inr (.inr k))))))).elim,λk6=>⟨⟨trivial⟩,λk=>?_,λk=>(no (.inl k)).elim⟩⟩⟩⟩⟩⟩⟩;unfold l0;rw[Zaa k1,Zaa k2,Zaa k3,Zaa k4,Zaa k5,Zaa k6,Zaa (by grind)];exact⟨⟨⟨d,⟨show 0<=y.2.i+1+1 by omega,show y.2.i+1+1<=(y.1.length:Int) by omega⟩,a3,a4,a⟩,a2.1,hi⟩,trivial,rfl,rfl,rfl,rfl,rfl⟩
def DK {k:br D} {X:Type} {fn:Func} {tab:tI} {a:k.Y->cO D} (e:k.Y->X×Bool) (e2:X×Bool->k.Y) (l:∀y,e2 (e y)=y) {T F:X->Prop} (i:∀x,T x=vc tab fn k a (e2 (x,true))) (h:∀x,F x=vc tab fn k a (e2 (x,false))) (ht:Qr tab)
  (h1:∀x,k.pre (e2 (x,true))->T x) (g:∀x,k.pre (e2 (x,false))->F x) (d:Tryz.prog.funcs[k.f]?=some fn:=by kernel_rfl) (j:fn.body.isSome:=by kernel_rfl):Ok k:=
 cw (V:=λy=>vc tab fn k a y) (λ_=>rfl) ht (λy c=>by
  show vc tab fn k a y
  rw[<-l y] at c ⊢;generalize e y=p at c ⊢;obtain⟨x,b⟩:=p;cases b with
  | true=>rw[<-i];exact h1 x c
  | false=>rw[<-h];exact g x c) d j
def QsR {k:br D} {X:Type} {T F:X->Prop} (tab:tI) (fn:Func) (a:k.Y->cO D) (e:k.Y->X×Bool) (e2:X×Bool->k.Y) (i:∀y,e2 (e y)=y) (ht:Qr tab) (h1:∀x,k.pre (e2 (x,true))->T x) (c:∀x,k.pre (e2 (x,false))->F x)
  (g:∀x,T x=vc tab fn k a (e2 (x,true)):=by intro x;kernel_rfl) (d:∀x,F x=vc tab fn k a (e2 (x,false)):=by intro x;kernel_rfl) (b:Tryz.prog.funcs[k.f]?=some fn:=by kernel_rfl) (h:fn.body.isSome:=by kernel_rfl):Ok k:=DK e e2 i g d ht h1 c b h
def Qay (a:Ok dr):Ok yv:=QsR (k:=yv) (T:=GD) (F:=GF) [pR,yr,DI,dr,Mc] f199 (λ_=>ew ()) id id (λ_=>rfl) ⟨tQ,Rx,Qav a,a,Qf2⟩ Qgd Qgc
theorem w8 (h:eQ G s.i):bX G s=(s.ax G s.i 4,[],false):=Zac h
theorem mh (h:eQ G s.i=false) (a:aJ G s.i=92):bX G s=dT G s:=(Zaa (by grind)).trans (Zac a)
theorem gf (h:eQ G s.i=false) (h0:aJ G s.i≠92) (a:aJ G s.i=91\/aJ G s.i=93\/aJ G s.i=45):bX G s=(s,[],false):=(Zaa (by grind)).trans ((Zaa h0).trans (Zac a))
theorem w9 (h:eQ G s.i=false) (h0:aJ G s.i≠92) (a:¬(aJ G s.i=91\/aJ G s.i=93\/aJ G s.i=45)):bX G s=(s.next,[(aJ G s.i,aJ G s.i)],true):=(Zaa (by grind)).trans ((Zaa h0).trans (Zaa a))
theorem Qge (y:PS) (g:GC.pre (y,false)):GH y:=by
 obtain⟨h0,hi,hk⟩:=g;have h0:bs y:=h0;have hi:y.2.i<y.1.length:=hi;have hk:false=w6 y:=hk;obtain⟨j,a2,a3,a4,l⟩:=id h0;have f:aw IntKind.i64 y.2.i 1=y.2.i+1:=ba ω ω;have d:y.2.i.toNat=(nn y.2).i:=rfl;have zi:y.2.i=((nn y.2).i:Int):=ω;have h:y.2.i+1=((nn y.2).next.i:Int):=by simp_all
 have zo:y.2.an=((nn y.2).an:Int):=by show _=((y.2.an.toNat:Nat):Int);omega
 have zg:y.2.ae=((nn y.2).ae:Int):=by show _=((y.2.ae.toNat:Nat):Int);omega
 have c:(y.1.getD (nn y.2).i (0,0)).1=aJ y.1 (nn y.2).i:=rfl;unfold GH;simp only[bI,fU,f,d,c,av,gt];refine⟨⟨h0,a2.1,hi⟩,λa=>?_,λa=>⟨a2.1,hi,λb=>⟨λq=>?_,λq=>?_⟩,λb=>?_⟩⟩
 ·grind [w8]
 ·grind [w6,DJ,mh]
 ·rw[mh a b];exact⟨⟨h0,hi,q.symm⟩,rfl,rfl,rfl,rfl,rfl,rfl,rfl⟩
 ·refine⟨λk=>⟨λ_=>?_,λk2=>absurd k k2⟩,λk=>⟨λk2=>⟨λ_=>?_,λk3=>absurd k2 k3⟩,λk2=>⟨λk3=>?_,λk3=>?_⟩⟩⟩
  ·rw[gf a b (.inl k)];exact⟨rfl,rfl,zi,zo,zg,rfl,rfl⟩
  ·rw[gf a b (.inr (.inl k2))];exact⟨rfl,rfl,zi,zo,zg,rfl,rfl⟩
  ·rw[gf a b (.inr (.inr k3))];exact⟨rfl,rfl,zi,zo,zg,rfl,rfl⟩
  ·rw[w9 a b (λe=>e.elim k λe=>e.elim k2 k3)];exact⟨rfl,rfl,h,zo,zg,rfl,rfl⟩
theorem Qgf (y:PS) (e:GC.pre (y,true)):GG y:=by
 obtain⟨h0,hi,hk⟩:=e;have h0:bs y:=h0;have hi:y.2.i<y.1.length:=hi;have hk:true=w6 y:=hk;obtain⟨f,a2,a3,a4,g⟩:=id h0;have d:y.2.i.toNat=(nn y.2).i:=rfl;have zi:y.2.i=((nn y.2).i:Int):=ω;have zo:y.2.an=((nn y.2).an:Int):=by show _=((y.2.an.toNat:Nat):Int);omega
 have zg:y.2.ae=((nn y.2).ae:Int):=by show _=((y.2.ae.toNat:Nat):Int);omega
 have c:(y.1.getD (nn y.2).i (0,0)).1=aJ y.1 (nn y.2).i:=rfl;unfold GG;simp only[bI,fU,Zal,d,c,av,gt];refine⟨⟨h0,a2.1,hi⟩,λa=>?_,λa=>⟨a2.1,hi,λb=>⟨λq=>?_,λq=>?_⟩,λb=>?_⟩⟩
 ·grind [w8]
 ·rw[mh a b];exact⟨⟨h0,hi,q.symm⟩,rfl,rfl,rfl,rfl,rfl⟩
 ·grind [w6,DJ,mh]
 ·refine⟨λk=>⟨λ_=>?_,λk2=>absurd k k2⟩,λk=>⟨λk2=>⟨λ_=>?_,λk3=>absurd k2 k3⟩,λk2=>⟨λk3=>?_,λk3=>?_⟩⟩⟩
  ·rw[gf a b (.inl k)];exact⟨zi,zo,zg,rfl,rfl⟩
  ·rw[gf a b (.inr (.inl k2))];exact⟨zi,zo,zg,rfl,rfl⟩
  ·rw[gf a b (.inr (.inr k3))];exact⟨zi,zo,zg,rfl,rfl⟩
  ·grind [w6,w9]
def Qgg (a:Ok dr):Ok GC:=QsR (k:=GC) (T:=GG) (F:=GH) [pR,yr,yv] f237 (λ_=>ew ()) id id (λ_=>rfl) ⟨tQ,Rx,Qay a⟩ Qgf Qge
def E5 (y:PS):Prop:=y.2.i<y.1.length
def RF:br D:=wY 224 PS (λy=>y) Me E5 (λ_=>[]) (λy=>zz (dU y.1 (nn y.2)).1) λy=>.list 6 (dU y.1 (nn y.2)).2
def RG (y:(List (Int×Int))×bZ):Prop:=let T:=y.2.i.toNat;let q1:=dU y.1 (nn y.2);let c:=bX y.1 (nn y.2);let I:=(y.1,y.2);let A:=((q1.1.ae:Nat):Int);let E:=((q1.1.i:Nat):Int);let F:=((q1.1.an:Nat):Int);let N:=((c.1.an:Nat):Int);let O:=((c.1.i:Nat):Int);let P:=((c.1.ae:Nat):Int);let G:=!(aC c.1.aq 0);let f:=(gt (0,0) c.2.1 0).1;let l:=bZ.mk O N P c.1.aq c.1.wh;let b:=bj y.1 (nn l) 45;let U:=!(a8 y.1 (nn l) 45);let q:=((b.ae:Nat):Int);let r:=((b.an:Nat):Int);let g:=((b.i:Nat):Int);let m:=Ps.ax y.1 (nn l) T 4;let H:=aC b.aq 0;let V:=ay g (ag y.1);let u:=bZ.mk g r q b.aq b.wh;let a:=bX y.1 (nn u);let h:=(y.1,u);let v:=((a.1.i:Nat):Int);let w:=((a.1.an:Nat):Int);let x:=((a.1.ae:Nat):Int);let j:=Ps.ax y.1 (nn u) T 4;let s:=aC a.1.aq 0;let k:=(gt (0,0) a.2.1 0).1;let z:=bZ.mk v w x a.1.aq a.1.wh;let d:=Ps.ax y.1 (nn z) T 4;let Q:=λp:Prop=>aa ([y.2.i,4]:List Int) (aa [y.1] (aa [bM y.1] (aa [v,w,x,a.1.aq,a.1.wh] p)));let e:=λp:Prop=>aa [y.1] (aa [bM y.1] p);let R:=λp:Prop=>aa [y.1] (aa [bM y.1] (aa [y.2.i,y.2.an,y.2.ae,y.2.aq,y.2.wh] p));let o:=λp:Prop=>aa [a.1.aq] p;let S:=λp:Prop=>aa [y.1] (aa [bM y.1] (aa [g,r,q,b.aq,b.wh] p));let t:Prop:=(0<=y.2.i/\(y.2.i<(y.1.length:Int)));let n:Prop:=(Tt 1 (ay 0 (ag c.2.1)/\False));let J:Prop:=(e (g=E/\r=F/\q=A/\b.aq=q1.1.aq/\b.wh=q1.1.wh/\True));let B:Prop:=(e (v=E/\w=F/\x=A/\a.1.aq=q1.1.aq/\a.1.wh=q1.1.wh/\True));let K:Prop:=(aa [b.aq] (Iv (bs h/\t)/\aa ([y.2.i,4]:List Int) (aa [y.1] (aa [bM y.1] (aa [g,r,q,b.aq,b.wh] (ak (!(aC j.aq 0)) ([]=q1.2/\e (((j.i:Nat):Int)=E/\((j.an:Nat):Int)=F/\((j.ae:Nat):Int)=A/\j.aq=q1.1.aq/\j.wh=q1.1.wh/\True)) (n)))))));let L:Prop:=(ak (!s) ([]=q1.2/\B) (Tt 1 (ay 0 (ag c.2.1)/\Tt 1 (ay 0 (ag a.2.1)/\aa [f,k] (([(f,k)]:List (Int×Int))=q1.2/\B)))));let C:Prop:=(e (((d.i:Nat):Int)=E/\((d.an:Nat):Int)=F/\((d.ae:Nat):Int)=A/\d.aq=q1.1.aq/\d.wh=q1.1.wh/\True));let M:Prop:=(o (Iv (bs (y.1,z)/\t)/\Q (ak (!(aC d.aq 0)) ([]=q1.2/\C) (n))));let D:Prop:=(Iv (bs (y.1,z)/\t)/\Q (ak (!(aC d.aq 0)) ([]=q1.2/\C) (Tt 1 (ay 0 (ag c.2.1)/\Tt 1 (ay 0 (ag a.2.1)/\aa [f,k] (([(f,k)]:List (Int×Int))=q1.2/\C))))));ak (w6 I) (Iv (bs I/\Mf (I,true))/\R (ak G ([]=q1.2/\e (O=E/\N=F/\P=A/\c.1.aq=q1.1.aq/\c.1.wh=q1.1.wh/\True)) (Iv (bs (y.1,l)/\t)/\aa ([y.2.i,4]:List Int) (aa [y.1] (aa [bM y.1] (aa [O,N,P,c.1.aq,c.1.wh] ([]=q1.2/\e (((m.i:Nat):Int)=E/\((m.an:Nat):Int)=F/\((m.ae:Nat):Int)=A/\m.aq=q1.1.aq/\m.wh=q1.1.wh/\True)))))))) (Iv (bs I/\Mf (I,false))/\R (ak G ([]=q1.2/\e (O=E/\N=F/\P=A/\c.1.aq=q1.1.aq/\c.1.wh=q1.1.wh/\True)) (ay 0 (ag c.2.1)/\Iv (bs (y.1,l)/\True)/\aa ([45]:List Int) (aa [y.1] (aa [bM y.1] (aa [O,N,P,c.1.aq,c.1.wh] (ak U (c.2.1=q1.2/\J) (aa [g] (aa [y.1] (ak V (ak (w6 h) (Iv (bs h/\Mf (h,true))/\S (ak s (ak (!c.2.2) (M) (ak (!false) (M) (n))) (o (ak (!s) ([]=q1.2/\B) (n))))) (Iv (bs h/\Mf (h,false))/\S (ak s (ak (!c.2.2) (o (D)) (ak (!a.2.2) (o (D)) (Tt 1 (ay 0 (ag c.2.1)/\Tt 1 (ay 0 (ag a.2.1)/\aa [a.1.aq,f,k] (ak (ay k f) (D) (L))))))) (o (L))))) (ak H (ak (!c.2.2) (K) (K)) (aa [b.aq] (ak (!H) ([]=q1.2/\J) (n))))))))))))))
@[grind=] theorem ez (t:Ps):nn ⟨t.i,t.an,t.ae,t.aq,t.wh⟩=t:=rfl
def bs.adv {y:PS} (h:bs y):fL y.1 (nn y.2) (nn y.2):=by
 obtain⟨_,a,b,c,_⟩:=h;exact fL.refl (by show y.2.i.toNat<=_;omega) (by show y.2.ae.toNat<=_;omega)
theorem bs.of {y:PS} (h:bs y) (a:fL y.1 (nn y.2) s):bs (y.1,⟨s.i,s.an,s.ae,s.aq,s.wh⟩):=by
 obtain⟨h1,d,f,g,b⟩:=h;have e:s.an=y.2.an.toNat:=a.op;have:=a.len;have:=a.gm;have c:((y.1,(⟨s.i,s.an,s.ae,s.aq,s.wh⟩:bZ)):PS).1.length=y.1.length:=rfl;exact⟨h1,⟨ZaF _,by grind⟩,⟨ZaF _,by grind⟩,⟨ZaF _,by grind⟩,b⟩
theorem RH (b:Fx G) (hl:s.i<G.length):(bX G s).2.1=[]->(bX G s).2.2=false:=by
 cases c:eQ G s.i with
 | true=>rw[w8 c];exact λ_=>rfl
 | false=>
  by_cases d:aJ G s.i=92
  ·rw[mh c d];by_cases h1:G.length<=s.i+1
   ·grind [sW]
   ·cases a:eQ G (s.i+1) with
    | true=>rw[sX ω a];exact λ_=>rfl
    | false=>
     rw[w7 ω a];intro h;have no:=λk=>JQ b (s:=s.next.next) s.i (i:=s.i+1) ω k b.w0 h
     grind [l0]
  ·grind [sx.gf,w9]
theorem Mg (h0:G.length<=s.i) (a:List Rg) (one:Bool) (b:Nat):jG G a one b s=if s.aq=0 then(s.ax G b 4,[]) else(s,[]):=by
 grind [eU,jG]
theorem RI (h:s.i<G.length) (a:List Rg) (one:Bool) (b:Nat):jG G a one b s=if (bX G s).1.aq=0 then(if one=false\/(bX G s).2.2=false\/ox (bX G s).2.1<ox a then((bX G s).1.ax G b 4,[]) else((bX G s).1,[(ox a,ox (bX G s).2.1)])) else((bX G s).1,[]):=by
 grind [eU,jG]
theorem Qmr (y:PS) (m:RF.pre y):RG y:=by
 obtain⟨h0,hi⟩:bs y/\y.2.i<y.1.length:=m;have a0:=h0.adv;have hl:(nn y.2).i<y.1.length:=by show y.2.i.toNat<_;obtain⟨_,n,_⟩:=h0;omega
 have j:(nn y.2).i=y.2.i.toNat:=rfl;have a:=(l4 a0 hl).1;have q:=h0.of a;have u:=h0.of (a.ax y.2.i.toNat 4);have g:=a.skip 45;have r:=h0.of g;have i0:0<=y.2.i:=h0.2.1.1;unfold RG;simp only[bI,bH,ez,E5,av,cS,Zd0,Int.ofNat_le];have o:=λh=>RH h0.2.2.2.2 (s:=bj y.1 (bX y.1 (nn y.2)).1 45) h
 have t:=λh=>h0.of (l4 g h).1
 have hk:∀s,w6 (y.1,s)=decide ((bX y.1 (nn s)).2.1=[]):=λ_=>rfl
 have f:∀s b,Mf ((y.1,s),b)=(s.i<y.1.length/\b=w6 (y.1,s)):=λ_ _=>rfl
 have v:=λ(s:Ps)=>eU (G:=y.1) s y.2.i.toNat (e:=4) (by decide)
 have c:dU y.1 (nn y.2)=if (bX y.1 (nn y.2)).1.aq≠0 then((bX y.1 (nn y.2)).1,[]) else if (bX y.1 (nn y.2)).2.1=[] then((bX y.1 (nn y.2)).1.ax y.1 (nn y.2).i 4,[]) else if a8 y.1 (bX y.1 (nn y.2)).1 45 then jG y.1 (bX y.1 (nn y.2)).2.1 (bX y.1 (nn y.2)).2.2 (nn y.2).i (bX y.1 (nn y.2)).1.next else((bX y.1 (nn y.2)).1,(bX y.1 (nn y.2)).2.1):=rfl
 rw[c];simp only[hk,f,ez,j];generalize bX y.1 (nn y.2)=p at*
 have hs:a8 y.1 p.1 45->bj y.1 p.1 45=p.1.next:=λh=>Zac h
 clear c hk f;have k:=λh=>RI (G:=y.1) (s:=p.1.next) (show p.1.i+1<y.1.length from h) p.2.1 p.2.2 y.2.i.toNat
 have d:=λh=>Mg (G:=y.1) (s:=p.1.next) (show y.1.length<=p.1.i+1 from h) p.2.1 p.2.2 y.2.i.toNat
 have l:a8 y.1 p.1 45=false->bj y.1 p.1 45=p.1:=λh=>Zaa (by grind)
 with_reducible repeat' first | apply And.intro | intro _
 all_goals first
  | assumption
  | (simp_all [ox,tL,Zbe];done)
  | (simp_all [ox,tL,Zbe];omega)
  | (simp_all [ox,tL,Zbe];simp(disch:=omega) only[Zac,Zaa, *];done)
  | (simp_all [ox,tL,Zbe])
def Qgh (a:Ok dr):Ok RF:=okZ [GC,pR,sV] f224 (λ_=>ew ()) ⟨Qgg a,tQ,zM⟩ Qmr
end
end sx
end Go.Proofs.YtklaonhcplaofaaGreat
