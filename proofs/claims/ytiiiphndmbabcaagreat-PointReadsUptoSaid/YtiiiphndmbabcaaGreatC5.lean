/- PointReads: a part of the proof. -/
import Derived.Test.YtiiiphndmbabcaaGreatC4
set_option linter.all false
namespace Go.Proofs.YtiiiphndmbabcaaGreat
open Go.Proofs.Tryz
set_option maxRecDepth 100000
set_option maxHeartbeats 4000000
namespace sx
noncomputable section
open Go Go.RowKit cls syn
variable {i:Nat} {y:By} {l:List Rg}
def Hm (y:Int):Prop:=let c:=(b6 y.toNat).2;let q1:=(b6 y.toNat).1;let a:=(c.2:Int);let b:=(c.1:Int);let d:Prop:=((-1)=q1/\0=b/\0=a/\True);aj (aw y 128) (0=q1/\0=b/\0=a/\True) (aj (aw y 194) (d) (aj (aw y 224) (1=q1/\128=b/\191=a/\True) (aj (aB y 224) (2=q1/\160=b/\191=a/\True) (aj (aB y 237) (2=q1/\128=b/\159=a/\True) (aj (aw y 240) (2=q1/\128=b/\191=a/\True) (aj (aB y 240) (3=q1/\144=b/\191=a/\True) (aj (aw y 244) (3=q1/\128=b/\191=a/\True) (aj (aB y 244) (3=q1/\128=b/\143=a/\True) (d)))))))))
def Cp (y:List UInt8):Prop:=let c:=ag y;let q1:=((gt 0 y 0).toNat:Int);let a:=(b6 q1.toNat).1;let j:=(b6 q1.toNat).2;let g:=(j.2:Int);let h:=(j.1:Int);let e:Prop:=(0=(cB y).1/\0=(cB y).2/\false=ji y/\True);aj (aB c 0) (e) (Tt 1 (aw 0 c/\Iv (Hg q1)/\RAG q1 (aj (aw a 0) (e) (Tt 1 (aw 0 c/\(aj (aw 0 a) (Tt 1 (aw 0 c/\aG 0 (jP .u64 a)/\Tt 1 (∃z:Unit,aa [y] (aa [a,h,g] (lF .i32 (jP .i32 q1) (oC .i32 63 (jP .u64 a))=vb y/\(Iv True)))))) (∃z:Unit,aa [y] (aa [a,h,g] (jP .i32 q1=vb y/\(Iv True)))))/\(∀x:Unit,(Iv True)->(∃z:Nat×Int,aa [y] (aa [a] (vb y=z.2/\h=u_ y z.1/\g=tF y z.1/\1=(z.1:Int)/\(Iv (xV y z.1 z.2)))))/\(∀d:Nat×Int,let b:=(d.1:Int);let i:=((gt 0 y b.toNat).toNat:Int);let k:=aw (tF y d.1) i;let f:=aw i (u_ y d.1);(Iv (xV y d.1 d.2))->aj (aG b a) (aj (aG c b) (0=(cB y).1/\0=(cB y).2/\true=ji y/\True) (aG 0 b/\aw b c/\aj f (e) (aG 0 b/\aw b c/\aj k (e) (Tt 1 (aG 0 b/\aw b c/\∃z:Nat×Int,aa [y] (aa [a] (FZ .i32 (oO .i32 d.2 6) (jP .i32 (lF .u8 i 63))=z.2/\128=u_ y z.1/\191=tF y z.1/\ay .i64 b 1=(z.1:Int)/\(Iv (xV y z.1 z.2/\(5-z.1)<(5-d.1)))))))))) (d.2=(cB y).1/\ay .i64 a 1=(cB y).2/\false=ji y/\True))))))))
def Sl (y:List UInt8):Prop:=let u:=λz:(List UInt8)×(List (Int×Int))=>(z.2++bg z.1)=bg y/\(z.1.length+z.2.length)<=y.length;(∃z:(List UInt8)×(List (Int×Int)),y=z.1/\[]=z.2/\(Iv (u z)))/\(∀x:(List UInt8)×(List (Int×Int)),let a:=(cB x.1).2;let q1:=bM x.2 [(65533,1)];let b:=bM x.2 [((cB x.1).1,a)];(Iv ((x.2++bg x.1)=bg y/\(x.1.length+x.2.length)<=y.length))->aj (aw 0 (ag x.1)) (Iv True/\RAG x.1 (aj (aB a 0) (bJ (ag q1) 16/\Tt 1 (aG 1 (ag x.1)/\∃z:(List UInt8)×(List (Int×Int)),wD x.1 1=z.1/\q1=z.2/\(Iv ((u z)/\z.1.length<x.1.length)))) (bJ (ag b) 16/\aG 0 a/\aG a (ag x.1)/\∃z:(List UInt8)×(List (Int×Int)),wD x.1 a=z.1/\b=z.2/\(Iv ((u z)/\z.1.length<x.1.length))))) (x.2=bg y/\True))
theorem QhQ (y:Int) (a:AP.pre y):Hm y:=by
 obtain⟨h1,b⟩:Hg y:=a;obtain⟨n,rfl⟩:=Zau h1;unfold Hm;simp only[bL,gz,Zad];refine⟨λh=>?_,λh=>⟨λh=>?_,λh=>⟨λh=>?_,λh=>⟨λh=>?_,λh=>⟨λh=>?_,λh=>⟨λh=>?_,λh=>⟨λh=>?_,λh=>⟨λh=>?_,λh=>⟨λh=>?_,λh=>?_⟩⟩⟩⟩⟩⟩⟩⟩⟩
 all_goals
  grind [b6]
def QeA:Ok AP:=okZ [] f209 QhL trivial QhQ
def mR (y:By) (i:Nat):((y.getD i 0).toNat:Int)<256:=by have:=(y.getD i 0).toNat_lt;omega
theorem qj (h:y≠[]):cB y=if (mo y).1<0 then(0,0) else match dx (mo y).1.toNat (vb y) (mo y).2.1 (mo y).2.2 (y.drop 1) with
  | some r=>(r,(mo y).1+1)
  | none=>(0,0):=by
 cases y with
 | nil=>exact absurd rfl h
 | cons c t=>rfl
theorem QeB {y:By}:0<=vb y/\vb y<256:=by
 have:=mR y 0;grind [vb,syn.start]
theorem QeC (h:0<=(mo y).1):vb y<128:=by
 have:=mR y 0;unfold vb syn.start mo at*
 repeat' split
 all_goals grind [b6]
theorem QeD (y:By) (n:po.pre y):Cp y:=by
 have m:=(kW (y.getD 0 0).toNat).1;have g:=(kW (y.getD 0 0).toNat).2;have l:b6 (y.getD 0 0).toNat=mo y:=rfl;rw[l] at m g;have B:=mR y 0;unfold Cp;simp only[bL,gz,au,gt,Zad,l];have hl:(y.length:Int)≠0->y≠[]:=λh e=>h (by grind)
 refine⟨λh=>?_,λh=>⟨ω,⟨by grind [Hg]⟩,λj=>?_,λj=>⟨ω,⟨λp=>⟨ω,?_,?_⟩,λp=>⟨(),?_,⟨trivial⟩⟩⟩,λ_ _=>⟨⟨(1,vb y),rfl,by rfl,by rfl,rfl,⟨?_⟩⟩,λx A=>?_⟩⟩⟩⟩
 ·obtain rfl:y=[]:=Zap ω;exact⟨rfl,rfl,rfl⟩
 ·grind [qj,ji]
 ·grind [Nl]
 ·refine⟨(),?_,⟨trivial⟩⟩;rw[vZ (k:=.i32) (by show(-2147483648:Int)<=_;omega) (by show _<=(2147483647:Int);omega),Nl ω ω];unfold vb syn.start;rcases m with e | e | e | e | e
  ·omega
  ·omega
  ·rw[e];exact Sg (k:=.i32) ω (by show _<=(2147483647:Int);omega)
  ·rw[e];exact Sh (k:=.i32) ω (by show _<=(2147483647:Int);omega)
  ·rw[e];exact Qb1 (k:=.i32) ω (by show _<=(2147483647:Int);omega)
 ·rw[vZ (k:=.i32) (by show(-2147483648:Int)<=_;omega) (by show _<=(2147483647:Int);omega)];grind [vb,syn.start]
 ·have:=@QeB y;refine⟨Zah _,ω,this.1,by have:=QeC j;simpa using this,?_,?_⟩
  ·rfl
  ·rfl
 ·obtain⟨i,r⟩:=x;obtain⟨i1,i2,i3,i4,i5,i6⟩:xV y i r:=A.out;have f:=hl h;have b:=qj f;rw[Zaa ω] at b;have hk:i<=4:=ω;have bi:=mR y i;have a:ji y=kY (mo y).1.toNat (mo y).2.1 (mo y).2.2 (y.drop 1):=by grind [ji]
  simp only at*
  rw[i5] at b;rw[i6] at a;refine⟨λq=>?_,λq=>?_⟩
  ·obtain⟨d,c⟩:∃d,(mo y).1.toNat+1-i=d+1:=⟨(mo y).1.toNat-i,ω⟩;rw[c] at b a;refine⟨λs=>?_,λs=>⟨ω,ω,?_⟩⟩
   ·have e:y.drop i=[]:=Zbu ω;rw[e] at b a;rw[b,a];exact⟨rfl,rfl,rfl⟩
   ·have e:y.drop i=y.getD i 0::y.drop (i+1):=by
     simp_all
    rw[e] at b a;simp only[dx,kY] at b a;have z:0<=u_ y i:=by grind [u_]
    have w:0<=tF y i:=by unfold tF;split<;>omega
    have bad:((y.getD i 0).toNat:Int)<u_ y i\/tF y i<((y.getD i 0).toNat:Int)->cB y=(0,0)/\ji y=false:=λv=>by
     grind
    refine⟨λt=>?_,λt=>⟨ω,ω,λu=>?_,λu=>⟨ω,ω,?_⟩⟩⟩
    ·grind
    ·grind
    ·rw[Sf (k:=.u8) ω (by show _<=(255:Int);omega),vZ (k:=.i32) (by show(-2147483648:Int)<=_;omega) (by show _<=(2147483647:Int);omega)];have v:r<524288:=by
      have hi:i=1\/i=2\/i=3:=ω;grind
     rw[six i3 ω ω ω];refine⟨(i+1,r*64+((y.getD i 0).toNat:Int) % 64),rfl,by simp[u_];omega,by simp[tF];omega,ba ω ω,⟨⟨ω,ω,ω,?_,?_,?_⟩,ω⟩⟩
     ·have hi:i=1\/i=2\/i=3:=ω;grind
     ·rw[i5,c,e];simp only[dx];rw[Zaa ω];have o:u_ y (i+1)=128:=by grind [u_]
      have e2:tF y (i+1)=191:=by unfold tF;rw[Zaa ω]
      grind
     ·rw[i6,c,e];simp only[kY];rw[Zaa ω];have o:u_ y (i+1)=128:=by grind [u_]
      have e2:tF y (i+1)=191:=by unfold tF;rw[Zaa ω]
      grind
  ·rw[show(mo y).1.toNat+1-i=0 by omega] at b a;grind [dx,kY]
def Cq:Ok po:=okZ [AP] f167 Qey QeA QeD
theorem Ep (h:y≠[]) (h0:(cB y).2=0):bg y=(65533,1)::bg (y.drop 1):=by
 have b:=Zbe.2 h;unfold bg;obtain⟨n,a⟩:∃n,y.length=n+1:=⟨y.length-1,ω⟩;grind [mP]
theorem KM (h:y≠[]) (h0:(cB y).2=i) (a:1<=i):bg y=cB y::bg (y.drop i):=by
 have c:=Zbe.2 h;unfold bg;obtain⟨n,b⟩:∃n,y.length=n+1:=⟨y.length-1,ω⟩;grind [pj,rb]
theorem Qn7 (y:By) (b:Hh.pre y):Sl y:=by
 have b:y.length<=1000000:=b;unfold Sl;simp only[bL,gz,au,aT,br];refine⟨⟨(y,[]),rfl,rfl,⟨rfl,by simp⟩⟩,λx f=>?_⟩;obtain⟨l,out⟩:=x;obtain⟨h1,g⟩:=f.out;simp only at*
 refine⟨λh=>⟨⟨trivial⟩,λc=>?_,λc=>?_⟩,λh=>?_⟩
 ·have a:l≠[]:=λe=>by grind
  refine⟨by grind,ω,(l.drop 1,out++[(65533,1)]),rfl,rfl,⟨⟨?_,by grind⟩,by grind⟩⟩;grind [Ep]
 ·have a:l≠[]:=λe=>by grind
  rcases kX l with h0 | ⟨m,d,m1,m2,_⟩
  ·omega
  ·refine⟨by grind,ω,ω,(l.drop m,out++[cB l]),?_,rfl,⟨⟨?_,by grind⟩,by grind⟩⟩
   ·rw[d];rfl
   ·grind [KM]
 ·obtain rfl:l=[]:=Zap ω;grind [bg,iM]
def QhR:Ok Hh:=okZ [po] f113 QnV Cq Qn7
def in2 (args:List (AV D.E)):C (Int×Int):=match args with
 | [a,b]=>aP (cT a) λ_ m=>aP (cT b) λ_ n=>.ret (m,n)
 | _=>.fail
def AQ:bh D:=bO 239 Int (λa _=>in1 a) Hg (λy=>[.int .u8 y]) λy=>Qvo ((b6 y.toNat).1+1)
def QhS (_:AQ.Y):cH D:=dY ()
def Nw (c d:Int):Bool:=if c=224 then decide (160<=d)&&decide (d<=191) else if c=237 then decide (128<=d)&&decide (d<=159) else if c=240 then decide (144<=d)&&decide (d<=191)
 else if c=244 then decide (128<=d)&&decide (d<=143) else decide (128<=d)&&decide (d<=191)
def Ny:bh D:=bO 240 (Int×Int) (λa _=>in2 a) (λ_=>True) (λy=>[.int .u8 y.1,.int .u8 y.2]) λy=>.bool (Nw y.1 y.2)
def Qn8 (_:Ny.Y):cH D:=dY ()
def qQ (y:By):Option Int:=dx (mo y).1.toNat (vb y) (mo y).2.1 (mo y).2.2 (y.drop 1)
def xW (y:By):Bool:=kY (mo y).1.toNat (mo y).2.1 (mo y).2.2 (y.drop 1)
def eY (y:By):Int×Int:=if y=[]\/(mo y).1<0 then(0,0) else if (qQ y).isSome then((mo y).1+1,(mo y).1+1) else if xW y then(y.length,(mo y).1+1) else(0,0)
def xX:bh D:=bO 201 By Nt (λ_=>True) (λy=>[.list 0 y]) λy=>.tuple [Qvo (eY y).1,Qvo (eY y).2]
def uI (y:By) (i:Nat):Prop:=1<=i/\(i:Int)<=(mo y).1+1/\i<=y.length/\(∃r,qQ y=dx ((mo y).1.toNat+1-i) r (u_ y i).toNat (tF y i).toNat (y.drop i))/\xW y=kY ((mo y).1.toNat+1-i) (u_ y i).toNat (tF y i).toNat (y.drop i)
def QhU (y:xX.Y):cH D:=⟨[],[],[(122,⟨Nat,[0,4],λx=>[(5,Qvo x)],[],λ_=>[],0,λx=>uI y x,λx=>5-x⟩)],[],1,[]⟩
def vd (y:By):Gt:=if (cB y).2=0 then(65533,1) else cB y
def AR:bh D:=bO 182 By Nt (λ_=>True) (λy=>[.list 0 y]) λy=>.agg (dj 13 (vd y))
def QhW (y:AR.Y):cH D:=⟨[],[],[],[(31,⟨Unit,[0,2,4],λ_=>[(5,.int .i32 (vd y).1)],[0],λ_=>[],1,λ_=>True,λ_=>0⟩)],1,[]⟩
def xY:bh D:={ Hh with f:=124 }
def QhY (y:xY.Y):cH D:=⟨[],[],[(28,⟨By×List Gt,[],λx=>[(0,.list 0 x.1),(3,.grow 13 x.2 0)],[],λ_=>[(0,.tok 13 192)],1,λx=>x.2++bg x.1=bg y/\x.1.length+x.2.length<=y.length,λx=>x.1.length⟩)],[],1,[]⟩
def Nz:bh D:=bO 161 By Nt (λ_=>True) (λy=>[.list 0 y]) λy=>.bool (ji y)
def Qoa (_:Nz.Y):cH D:=dY ()
def Hn (y:Int):Prop:=let a:Prop:=(0=((b6 y.toNat).1+1)/\True);let q1:Prop:=(aj (aG 240 y) (aj (aG y 244) (4=((b6 y.toNat).1+1)/\True) (a)) (a));let b:Prop:=(aj (aG 224 y) (aj (aG y 239) (3=((b6 y.toNat).1+1)/\True) (q1)) (q1));aj (aw y 128) (1=((b6 y.toNat).1+1)/\True) (aj (aG 194 y) (aj (aG y 223) (2=((b6 y.toNat).1+1)/\True) (b)) (b))
def Sp (y:Int×Int):Prop:=let a:=Nw y.1 y.2;aj (aB y.1 224) (aj (aG 160 y.2) (aG y.2 191=a/\True) (false=a/\True)) (aj (aB y.1 237) (aj (aG 128 y.2) (aG y.2 159=a/\True) (false=a/\True)) (aj (aB y.1 240) (aj (aG 144 y.2) (aG y.2 191=a/\True) (false=a/\True)) (aj (aB y.1 244) (aj (aG 128 y.2) (aG y.2 143=a/\True) (false=a/\True)) (aj (aG 128 y.2) (aG y.2 191=a/\True) (false=a/\True)))))
def Ho (y:List UInt8):Prop:=let c:=ag y;let q1:=(eY y).1;let f:=((gt 0 y 1).toNat:Int);let b:=((gt 0 y 0).toNat:Int);let l:=aw c ((b6 b.toNat).1+1);let m:=aB ((b6 b.toNat).1+1) 0;let k:=λp:Prop=>RAH y ((b6 b.toNat).1+1) p;let e:Prop:=(0=q1/\0=(eY y).2/\True);let i:Prop:=(((b6 b.toNat).1+1)=(eY y).2/\True);let j:Prop:=(aj l (c=q1/\i) (((b6 b.toNat).1+1)=q1/\i));aj (aB c 0) (e) (Tt 1 (aw 0 c/\Iv (Hg b)/\RAG b (aj m (e) (Tt 1 (aw 0 c/\Iv (Hg b)/\aa [b] ((∃z:Nat,k (1=(z:Int)/\(Iv (uI y z))))/\(∀x:Nat,let a:=((gt 0 y (x:Int).toNat).toNat:Int);let g:=aw (x:Int) ((b6 b.toNat).1+1);let d:Prop:=(∃z:Nat,k (ay .i64 (x:Int) 1=(z:Int)/\(Iv (uI y z/\(5-z)<(5-x)))));let h:Prop:=(aa [a,a] (aj (aw 191 a) (e) (d)));(Iv (uI y x))->aj g (aj (aw (x:Int) c) (aj (aB (x:Int) 1) (Tt 1 (aw 0 c/\Tt 1 (aw 1 c/\Iv True/\aa [b,f] (aj (!(Nw b f)) (aa [b,f] (e)) (aj (aw 1 (x:Int)) (aG 0 (x:Int)/\aw (x:Int) c/\aj (aw a 128) (aa [b,f,a] (e)) (aG 0 (x:Int)/\aw (x:Int) c/\aa [b,f,a,a] (aj (aw 191 a) (e) (d)))) (aa [b,f] (d))))))) (aj (aw 1 (x:Int)) (aG 0 (x:Int)/\aw (x:Int) c/\aj (aw a 128) (aa [a] (e)) (aG 0 (x:Int)/\aw (x:Int) c/\h)) (d))) (j)) (j))))))))
def Hq (y:List UInt8):Prop:=let c:=(eY y).2;let q1:=(vd y).1;let j:=aB (eY y).1 0;let k:=aw (eY y).1 c;let h:=((gt 0 y 3).toNat:Int);let f:=((gt 0 y 2).toNat:Int);let b:=((gt 0 y 0).toNat:Int);let e:=((gt 0 y 1).toNat:Int);let i:=jP .i32 (lF .u8 f 63);let g:=jP .i32 (lF .u8 e 63);let a:=λp:Prop=>RAH y c p;let d:Prop:=(65533=q1/\1=(vd y).2/\True);Iv True/\RAG y (aj j (d) (aj k (d) (Tt 1 (aw 0 (ag y)/\(aj (aB c 2) (Tt 1 (aw 0 (ag y)/\Tt 2 (aw 1 (ag y)/\aa [b,e] (∃z:Unit,a (FZ .i32 (oO .i32 (jP .i32 (lF .u8 b 31)) 6) g=q1/\(Iv True)))))) (aj (aB c 3) (Tt 1 (aw 0 (ag y)/\Tt 2 (aw 1 (ag y)/\Tt 2 (aw 2 (ag y)/\aa [b,e,f] (∃z:Unit,a (FZ .i32 (FZ .i32 (oO .i32 (jP .i32 (lF .u8 b 15)) 12) (oO .i32 g 6)) i=q1/\(Iv True))))))) (aj (aB c 4) (Tt 1 (aw 0 (ag y)/\Tt 2 (aw 1 (ag y)/\Tt 2 (aw 2 (ag y)/\Tt 2 (aw 3 (ag y)/\aa [b,e,f,h] (∃z:Unit,a (FZ .i32 (FZ .i32 (FZ .i32 (oO .i32 (jP .i32 (lF .u8 b 7)) 18) (oO .i32 g 12)) (oO .i32 i 6)) (jP .i32 (lF .u8 h 63))=q1/\(Iv True)))))))) (∃z:Unit,a (jP .i32 b=q1/\(Iv True))))))/\(∀x:Unit,(Iv True)->aa [q1] (c=(vd y).2/\True))))))
def Hr (y:List UInt8):Prop:=(∃z:(List UInt8)×(List (Int×Int)),y=z.1/\[]=z.2/\(Iv ((z.2++bg z.1)=bg y/\(z.1.length+z.2.length)<=y.length)))/\(∀x:(List UInt8)×(List (Int×Int)),let a:=(vd x.1).2;let q1:=bM x.2 [((vd x.1).1,a)];(Iv ((x.2++bg x.1)=bg y/\(x.1.length+x.2.length)<=y.length))->aj (aw 0 (ag x.1)) (Iv True/\RAG x.1 (bJ (ag q1) 16/\aG 0 a/\aG a (ag x.1)/\∃z:(List UInt8)×(List (Int×Int)),wD x.1 a=z.1/\q1=z.2/\(Iv (((z.2++bg z.1)=bg y/\(z.1.length+z.2.length)<=y.length)/\z.1.length<x.1.length)))) (x.2=bg y/\True))
def Su (y:List UInt8):Prop:=let a:=(eY y).1;let q1:=aw a (eY y).2;Iv True/\RAG y (aj (aw 0 a) (aj q1 (aB a (ag y)=ji y/\True) (false=ji y/\True)) (false=ji y/\True))
theorem Qh0 (y:Int) (a:AQ.pre y):Hn y:=by
 grind [b6,Hn]
def QeE:Ok AQ:=okZ [] f239 QhS trivial Qh0
theorem Qoc (y:Int×Int) (a:Ny.pre y):Sp y:=by
 grind [Sp,Nw]
def Qh1:Ok Ny:=okZ [] f240 Qn8 trivial Qoc
theorem Sv (h:1<=(mo y).1) (d:Int):Nw ((y.getD 0 0).toNat:Int) d=(decide (((mo y).2.1:Int)<=d)&&decide (d<=((mo y).2.2:Int))):=by
 unfold mo at*
 generalize (y.getD 0 0).toNat=n at*
 have a:((n=224/\b6 n=(2,160,191))\/(n=237/\b6 n=(2,128,159))\/(n=240/\b6 n=(3,144,191))\/(n=244/\b6 n=(3,128,143))\/(n≠224/\n≠237/\n≠240/\n≠244/\(b6 n).2=(128,191))):=by
  unfold b6 at h ⊢
  repeat' split at h
  all_goals grind
 grind [Nw]
theorem AS (h:uI y i) (h1:(i:Int)<(mo y).1+1) (g:i<y.length):
  (((y.getD i 0).toNat:Int)<u_ y i\/tF y i<((y.getD i 0).toNat:Int)->eY y=(0,0))/\(¬(((y.getD i 0).toNat:Int)<u_ y i\/tF y i<((y.getD i 0).toNat:Int))->uI y (i+1)):=by
 have⟨i1,i2,i3,⟨r,i4⟩,i5⟩:=h;obtain⟨d,b⟩:∃d,(mo y).1.toNat+1-i=d+1:=⟨(mo y).1.toNat-i,ω⟩;have e:y.drop i=y.getD i 0::y.drop (i+1):=by
  simp_all
 have c:0<=tF y i:=by unfold tF;split<;>omega
 have f:u_ y (i+1)=128:=by grind [u_]
 have e2:tF y (i+1)=191:=by unfold tF;rw[Zaa ω]
 rw[b,e] at i4 i5;simp only[dx,kY] at i4 i5;refine⟨λa=>?_,λa=>⟨ω,ω,ω,⟨r*64+(y.getD i 0).toNat % 64,?_⟩,?_⟩⟩
 ·grind [eY]
 all_goals grind
theorem Sw (a:y≠[]) (h0:0<=(mo y).1) (h:uI y i) (h1:(mo y).1+1<=i\/y.length<=i):eY y=(min (y.length:Int) ((mo y).1+1),(mo y).1+1):=by
 have⟨i1,i2,i3,⟨r,i4⟩,i5⟩:=h;unfold eY;rw[Zaa (λh=>h.elim a ω)];by_cases hk:(mo y).1+1<=i
 ·rw[show(mo y).1.toNat+1-i=0 by omega] at i4;rw[i4];show(if (true:Bool)=true then _ else _)=_
  grind
 ·obtain⟨d,b⟩:∃d,(mo y).1.toNat+1-i=d+1:=⟨(mo y).1.toNat-i,ω⟩;rw[b,Zbu ω] at i4 i5;rw[i4,i5,show min (y.length:Int) ((mo y).1+1)=y.length by omega];rfl
theorem Qh2 (y:By) (m:xX.pre y):Ho y:=by
 have t:=(kW (y.getD 0 0).toNat).1;have l:b6 (y.getD 0 0).toNat=mo y:=rfl;rw[l] at t;have w:=mR y 0;have hl:(y.length:Int)≠0->y≠[]:=λh e=>h (by grind)
 unfold Ho;simp only[bL,gz,au,gt,Zad,l,Zan,Zao];refine⟨λh=>?_,λh=>⟨ω,⟨by grind [Hg]⟩,λo=>?_,λo=>⟨ω,⟨by grind [Hg]⟩,⟨1,rfl,?_⟩,λi hi=>?_⟩⟩⟩
 ·obtain rfl:y=[]:=Zap ω;exact⟨rfl,rfl⟩
 ·grind [eY]
 ·exact⟨Zah _,ω,ω,⟨vb y,by rfl⟩,by rfl⟩
 ·have hi:=hi.out;have j:=hl h;have r:=hi.1;have s:=hi.2.1;have step:(i:Int)<(mo y).1+1->(i:Int)<y.length->¬(((y.getD i 0).toNat:Int)<u_ y i\/tF y i<((y.getD i 0).toNat:Int))->∃z:Nat,ay .i64 (i:Int) 1=(z:Int)/\Iv (uI y z/\5-z<5-i):=λa b c=>
   ⟨i+1,ba ω ω,(AS hi a ω).2 c,ω⟩
  have stop:(i:Int)<(mo y).1+1->(i:Int)<y.length->(((y.getD i 0).toNat:Int)<u_ y i\/tF y i<((y.getD i 0).toNat:Int))->(0:Int)=(eY y).1/\(0:Int)=(eY y).2:=λa b c=>by
   rw[(AS hi a ω).1 c];exact⟨rfl,rfl⟩
  have en:(mo y).1+1<=i\/(y.length:Int)<=i->eY y=(min (y.length:Int) ((mo y).1+1),(mo y).1+1):=λa=>Sw j ω hi ω
  have u:i=1->u_ y i=(mo y).2.1/\tF y i=(mo y).2.2:=λe=>by subst e;exact⟨rfl,rfl⟩
  have v:i≠1->u_ y i=128/\tF y i=191:=λe=>by unfold u_ tF;rw[Zaa e,Zaa e];exact⟨rfl,rfl⟩
  have fin:(mo y).1+1<=i\/(y.length:Int)<=i->(((y.length:Int)<(mo y).1+1->(y.length:Int)=(eY y).1/\(mo y).1+1=(eY y).2)/\((mo y).1+1<=(y.length:Int)->(mo y).1+1=(eY y).1/\(mo y).1+1=(eY y).2)):=λa=>by
   rw[en a];exact⟨λb=>⟨ω,rfl⟩,λb=>⟨ω,rfl⟩⟩
  refine⟨λd=>⟨λf=>⟨λp=>⟨ω,ω,⟨trivial⟩,?_⟩,λp=>?_⟩,λf=>fin (.inr f)⟩,λd=>fin (.inl d)⟩
  ·obtain rfl:i=1:=ω;rw[Sv ω];have⟨n,e2⟩:=u rfl;have st:=stop d f;have sp:=step d f;simp only[Zbz,ZaW,ZaP,Zbi];refine⟨λg=>st ω,λg=>⟨λk=>ω,λ_=>sp ω⟩⟩
  ·have⟨n,e2⟩:=v ω;have st:=stop d f;have sp:=step d f;refine⟨λg=>⟨ω,ω,λk=>st ω,λk=>⟨ω,ω,λq=>st ω,λq=>sp ω⟩⟩,λg=>ω⟩
def Sx:Ok xX:=okZ [AQ,Ny] f201 QhU ⟨QeE,Qh1⟩ Qh2
theorem NA (h:xW y):qQ y=none:=by
 have key:∀(k lo hi:Nat) (r:Int) (t:By),kY k lo hi t->dx k r lo hi t=none:=λk=>by
  induction k with
  | zero=>intro lo hi r t h;cases h
  | succ k a=>
   intro lo hi r t h;cases t with
   | nil=>rfl
   | cons b t=>
    grind [kY,dx]
 exact key _ _ _ _ _ h
theorem Sy (h:xW y):y.length<(mo y).1+1:=by
 have key:∀(k lo hi:Nat) (t:By),kY k lo hi t->t.length<k:=λk=>by
  induction k with
  | zero=>intro lo hi t h;cases h
  | succ k a=>
   intro lo hi t h;cases t with
   | nil=>simp
   | cons b t=>
    grind [kY]
 have:=key _ _ _ _ h;grind
theorem NB (a:y≠[]) (h0:0<=(mo y).1) (h:(qQ y).isSome):(mo y).1+1<=y.length:=by
 cases e:qQ y with
 | none=>rw[e] at h;cases h
 | some r=>
  have:=q_ _ _ _ _ _ _ e;grind [List.length_pos_iff]
theorem xZ (y:By):(eY y=(0,0)/\ji y=false/\(cB y).2=0)\/(∃k:Int,y≠[]/\eY y=((y.length:Int),k)/\(y.length:Int)<k/\ji y/\(cB y).2=0)\/
  (∃r,y≠[]/\0<=(mo y).1/\qQ y=some r/\(mo y).1+1<=y.length/\eY y=((mo y).1+1,(mo y).1+1)/\ji y=false/\cB y=(r,(mo y).1+1)):=by
 by_cases a:y=[]
 ·subst a;exact .inl ⟨rfl,rfl,rfl⟩
 by_cases h0:(mo y).1<0
 ·grind [eY,ji,qj]
 have b:=qj a;rw[Zaa h0] at b;have c:ji y=xW y:=by unfold ji;rw[ZaK a,ZaK (p:=0<=(mo y).1) ω];rfl
 have ht:eY y=if (qQ y).isSome then((mo y).1+1,(mo y).1+1) else if xW y then((y.length:Int),(mo y).1+1) else(0,0):=by
  grind [eY]
 have b:cB y=match qQ y with
  | some r=>(r,(mo y).1+1)
  | none=>(0,0):=b
 cases hs:xW y with
 | true=>
  grind [NA,Sy]
 | false=>
  rw[hs] at c ht;cases d:qQ y with
  | none=>rw[d] at b ht;exact .inl ⟨ht,c,by rw[b]⟩
  | some r=>rw[d] at b ht;exact .inr (.inr ⟨r,a,ω,rfl,NB a ω (by grind),ht,c,b⟩)
theorem Qod (y:By) (a:Nz.pre y):Su y:=by
 unfold Su;grind [xZ,List.length_pos_iff]
def Qh3:Ok Nz:=okZ [xX] f161 Qoa Sx Qod
theorem Er {x:Int} (h0:0<=x) (h1:x<2147483648):jP .i32 x=x:=vZ (by show(-2147483648:Int)<=_;omega) (by show _<=(2147483647:Int);omega)
def b63 (n:UInt8):jP .i32 (lF .u8 (n.toNat:Int) 63)=(n.toNat:Int) % 64:=by
 have:=n.toNat_lt;rw[Sf (k:=.u8) ω (by show _<=(255:Int);omega),Er ω ω]
def lay {a b n:Nat} (c:b<2 ^ n) (h:2 ^ n*a+b<2147483648):FZ .i32 ((2 ^ n*a:Nat):Int) (b:Int)=((2 ^ n*a+b:Nat):Int):=QhI c (by show _<=(2147483647:Int);omega)
theorem Es {a n:Nat} (b:n<=32) (h:2 ^ n*a<2147483648):oO .i32 (a:Int) ((n:Nat):Int)=((2 ^ n*a:Nat):Int):=by
 rw[Qb2 (k:=.i32) b ω (by show _<=(2147483647:Int);have:((a:Int)*2 ^ n)=((2 ^ n*a:Nat):Int):=(by grind);omega)];grind
theorem Qh4 (y:By) (m:AR.pre y):Hq y:=by
 unfold Hq;simp only[bL,gz,au,gt,b63];unfold vd;rcases xZ y with⟨j,e2,l⟩ | ⟨k,h0,j,h1,e2,l⟩ | ⟨r,h0,h1,c,B,j,e2,l⟩
 ·grind
 ·grind
 ·rw[j,Zaa (by grind),l];have t:=(kW (y.getD 0 0).toNat).1;have s:b6 (y.getD 0 0).toNat=mo y:=rfl;rw[s] at t;have A:=(y.getD 0 0).toNat_lt;have cell:∀i:Nat,i<y.length->y.drop i=y.getD i 0::y.drop (i+1):=λi hi=>by
   simp_all
  unfold qQ at c;refine⟨⟨trivial⟩,λh=>absurd h ω,λ_=>⟨λh=>absurd h ω,λ_=>⟨ω,⟨λo=>⟨ω,ω,(),?_,⟨trivial⟩⟩,λo=>⟨λp=>⟨ω,ω,ω,(),?_,⟨trivial⟩⟩,λp=>⟨λq=>⟨ω,ω,ω,ω,(),?_,⟨trivial⟩⟩,λq=>⟨(),?_,⟨trivial⟩⟩⟩⟩⟩,λ_ _=>rfl⟩⟩⟩
  ·have hk:(mo y).1=1:=ω;have e:vb y=((y.getD 0 0).toNat:Int) % 32:=by unfold vb syn.start;rw[hk];rfl
   rw[hk,cell 1 ω] at c;simp only[show Int.toNat 1=1 from rfl,show Int.toNat 2=2 from rfl,show Int.toNat 3=3 from rfl,dx,e] at c;split at c
   ·cases c
   ·rw[Sg (k:=.u8) ω (by show _<=(255:Int);omega),Er ω ω,six ω ω ω ω];grind
  ·have hk:(mo y).1=2:=ω;have e:vb y=((y.getD 0 0).toNat:Int) % 16:=by unfold vb syn.start;rw[hk];rfl
   rw[hk,cell 1 ω,cell 2 ω] at c;simp only[show Int.toNat 1=1 from rfl,show Int.toNat 2=2 from rfl,show Int.toNat 3=3 from rfl,dx,e] at c;split at c
   ·cases c
   split at c
   ·cases c
   rw[<-ZbN c,Sh (k:=.u8) ω (by show _<=(255:Int);omega),Er ω ω];generalize (y.getD 0 0).toNat=d at*
   generalize (y.getD 1 0).toNat=f at*
   generalize (y.getD 2 0).toNat=g at*
   have x:=Es (a:=d % 16) (n:=12) ω ω;have z:=Es (a:=f % 64) (n:=6) ω ω;have u:=lay (a:=d % 16) (b:=2 ^ 6*(f % 64)) (n:=12) ω ω;have v:=lay (a:=d % 16*64+f % 64) (b:=g % 64) (n:=6) ω ω;grind
  ·have hk:(mo y).1=3:=ω;have e:vb y=((y.getD 0 0).toNat:Int) % 8:=by unfold vb syn.start;rw[hk];rfl
   rw[hk,cell 1 ω,cell 2 ω,cell 3 ω] at c;simp only[show Int.toNat 1=1 from rfl,show Int.toNat 2=2 from rfl,show Int.toNat 3=3 from rfl,dx,e] at c;split at c
   ·cases c
   split at c
   ·cases c
   split at c
   ·cases c
   rw[<-ZbN c,Qb1 (k:=.u8) ω (by show _<=(255:Int);omega),Er ω ω];generalize (y.getD 0 0).toNat=d at*
   generalize (y.getD 1 0).toNat=f at*
   generalize (y.getD 2 0).toNat=g at*
   generalize (y.getD 3 0).toNat=w at*
   have x:=Es (a:=d % 8) (n:=18) ω ω;have z:=Es (a:=f % 64) (n:=12) ω ω;have s3:=Es (a:=g % 64) (n:=6) ω ω;have u:=lay (a:=d % 8) (b:=2 ^ 12*(f % 64)) (n:=18) ω ω;have v:=lay (a:=d % 8*64+f % 64) (b:=2 ^ 6*(g % 64)) (n:=12) ω ω;have C:=lay (a:=(d % 8*64+f % 64)*64+g % 64) (b:=w % 64) (n:=6) ω ω;grind
  ·have hk:(mo y).1=0:=ω;rw[hk] at c;have e:vb y=((y.getD 0 0).toNat:Int):=by grind [vb,syn.start]
   have c:some (vb y)=some r:=c;grind [Er]
def QeF:Ok AR:=okZ [xX] f182 QhW Sx Qh4
theorem YJ (h:y≠[]):∃m:Nat,(vd y).2=m/\1<=m/\m<=y.length/\bg y=vd y::bg (y.drop m):=by
 grind [vd,kX,Ep,KM]
theorem Qh5 (y:By) (b:xY.pre y):Hr y:=by
 have b:y.length<=1000000:=b;unfold Hr;simp only[bL,gz,au,aT,br];refine⟨⟨(y,[]),rfl,rfl,rfl,by simp⟩,λx d=>?_⟩;have⟨l,out⟩:=x;simp only at*
 refine⟨λh=>?_,λh=>?_⟩
 ·have a:l≠[]:=λe=>by grind
  have⟨m,c,m1,m2,e⟩:=YJ a;refine⟨⟨trivial⟩,by grind,ω,ω,(l.drop m,out++[vd l]),?_,rfl,⟨?_,by grind⟩,by grind⟩
  ·rw[c];rfl
  ·grind
 ·obtain rfl:l=[]:=Zap ω;grind [bg,iM]
def QeG:Ok xY:=okZ [AR] f124 QhY QeF Qh5
def Cr (args:List (AV D.E)) (s:St D.E):C (List Rg):=match args with
 | [a]=>az (aL D s 6 a) λl=>.ret (l:List Rg)
 | _=>.fail
def Qh6 (args:List (AV D.E)) (s:St D.E):C (List Rg×Int):=match args with
 | [a,b]=>az (aL D s 6 a) λl=>aP (cT b) λ_ n=>.ret ((l:List Rg),n)
 | _=>.fail
def QeH (args:List (AV D.E)) (s:St D.E):C (List Rg×List Rg):=match args with
 | [a,b]=>az (aL D s 6 a) λl=>az (aL D s 6 b) λm=>.ret ((l:List Rg),(m:List Rg))
 | _=>.fail
def dB:bh D:=bO 250 (List Rg) Cr (λy=>y.length<=100000000) (λy=>[.list 6 y]) λy=>.list 6 (aU y)
def at_ (l:List Rg) (i:Nat):Rg:=l.getD i (0,0)
def Hs:bh D:=bO 293 (List Rg) Cr (λy=>y.length<=1000000) (λy=>[.list 6 y]) λy=>.list 6 (lH y)
def Qoe (y:Hs.Y):cH D:=⟨[],[],[(122,⟨Nat×List Rg×Int,[8,9],λx=>[(3,.grow 6 x.2.1 0),(4,.int .i32 x.2.2),(10,Qvo x.1)],[],λ_=>[(0,.tok 6 350)],1,λx=>x.2.1++iv x.2.2 ((aU y).drop x.1)=iv 0 (aU y)/\x.1<=(aU y).length/\x.2.1.length=x.1,λx=>(aU y).length-x.1⟩)],[],1,[]⟩
def Et:bh D:=bO 272 (List Rg×List Rg) QeH (λ_=>True) (λy=>[.list 6 y.1,.list 6 y.2]) λy=>.bool (decide (y.1=y.2))
def Qog (y:Et.Y):cH D:=⟨[(0,.fact 0)],[],[(58,⟨Nat,[0,1,12],λx=>[(13,Qvo x)],[],λ_=>[],0,λx=>x<=y.1.length/\y.1.take x=y.2.take x,λx=>y.1.length-x⟩)],[],1,[]⟩
def Eu:bh D:=bO 248 (List Rg) Cr (λy=>y.length<=100000000) (λy=>[.list 6 y]) λy=>.bool (decide (y=aU y))
def Qoi (_:Eu.Y):cH D:=dY ()
def Qh7:bh D:=bO 289 (List Rg×Int) Qh6 (λ_=>True) (λy=>[.list 6 y.1,.int .i32 y.2]) λy=>.bool (bk y.1 y.2)
def x0:bh D:={ Qh7 with f:=286 }
def Qh8 (y:x0.Y):cH D:=⟨[(0,.fact 0)],[],[(26,⟨Nat,[0,1],λx=>[(5,Qvo x)],[],λ_=>[],0,λx=>x<=y.1.length/\bk y.1 y.2=bk (y.1.drop x) y.2,λx=>y.1.length-x⟩)],[],1,[]⟩
def KN (m:List Int):List Int:=m.mergeSort λa b=>decide (a<=b)
def bn (l:List Rg):List Int:=KN (c_ l)
def gA:bh D:=bO 285 (List Rg) Cr (λy=>y.length<=2000000) (λy=>[.list 6 y]) λy=>.list 14 (bn y)
def arI (b:Nat) (m:List Int):List (Nat×AO D.E):=[(b,.arr 14 m 21 false)]
def dQ (l:List Rg) (i:Nat):List Int:=[0,55296,57344,1114112]++(l.take i).flatMap lT
def Qia (y:gA.Y):cH D:=⟨[],[1],[(58,⟨Nat,[0],λi=>[(3,.own 0 1 (ag (dQ y i))),(4,Qvo i)],[],λi=>arI 0 (dQ y i),1,λi=>i<=y.length,λi=>y.length-i⟩),
 (122,⟨Nat×List Int,[],λx=>[(3,.own 0 1 (ag x.2)),(5,Qvo x.1)],[],λx=>arI 0 x.2,1,λx=>1<=x.1/\x.1<=x.2.length/\x.2.Perm (c_ y)/\D' x.2 x.1,λx=>(c_ y).length-x.1⟩)],
 [],1,[(7826,⟨Nat×List Int,λx=>⟨Nat×List Int,[5],λz=>[(3,.own 0 1 (ag z.2)),(6,Qvo z.1)],[],λz=>arI 0 z.2,1,λz=>z.1<=x.1/\x.1<z.2.length/\z.2.Perm (c_ y)/\pb z.2 z.1 x.1,λz=>z.1⟩,none⟩)]⟩
def arR (b:Nat) (m:List Rg):List (Nat×AO D.E):=[(b,.arr 6 m 350 false)]
def YK (l:List Rg):Prop:=l.length<=100000000/\∀r∈l,-10<=r.2/\r.2<=1114111
def Ht:bh D where
 f:=287
 Y:=List Rg×Int×Int
 oM:=λargs s=>match args with
  | [a,b,c]=>az (aL D s 6 a) λl=>aP (cT b) λ_ m=>aP (cT c) λ_ n=>.ret ((l:List Rg),m,n)
  | _=>.fail
 pre:=λy=>YK y.1
 args:=λy=>[.own 0 2 (ag y.1),.int .i32 y.2.1,.int .i32 y.2.2]
 heap:=λy=>arR 0 y.1
 res:=λy=>.own 1 2 (ag (cr y.1 y.2.1 y.2.2))
 dy:=λy=>arR 1 (cr y.1 y.2.1 y.2.2)
 jY:=1
 oS:=2
def Qom (_:Ht.Y):cH D:=dY ()
def Qic (y:List Rg) (c:Int->Bool):List (Nat×iH D):=[(122,⟨Nat,[0,3],λi=>[(4,.own 0 2 (ag (dJ c (bn y) i))),(5,.int .i64 i)],[],λi=>arR 0 (dJ c (bn y) i),1,λi=>i+1<=(bn y).length,λi=>(bn y).length-i⟩)]
def lW:bh D:=bO 257 (List Rg) Cr (λy=>y.length<=2000000) (λy=>[.list 6 y]) λy=>.list 6 (aU y)
def Qid (y:lW.Y):cH D:=⟨[],[],Qic y (bk y),[],1,[]⟩
def pr:bh D:=bO 280 (List Rg) Cr (λy=>y.length<=2000000) (λy=>[.list 6 y]) λy=>.list 6 (lH y)
def Qif (y:pr.Y):cH D:=⟨[],[],Qic y (λr=>!bk y r),[],1,[]⟩
def x_:bh D:={ Eu with f:=256,pre:=λy=>y.length<=2000000 }
def Qih (y:x_.Y):cH D:=⟨[],[],[(122,⟨Nat,[0,3],λi=>[(4,Qvo i)],[],λ_=>[],0,λi=>i<=y.length/\(aU y).take i=y.take i,λi=>y.length-i⟩)],[],1,[]⟩
def Sz (y:List (Int×Int)):Prop:=let a:=aU y;Iv (y.length<=100000000)/\aa [y] ((∃z:Nat×(List (Int×Int))×Int,aa [a] (aa [ag a] ([]=z.2.1/\0=z.2.2/\0=(z.1:Int)/\(Iv ((z.2.1++iv z.2.2 (List.drop z.1 a))=iv 0 a/\z.1<=a.length/\z.2.1.length=z.1)))))/\(∀x:Nat×(List (Int×Int))×Int,let q1:=a.length;let b:=(x.1:Int);let d:=gt (0,0) a b.toNat;let c:=bM x.2.1 [(x.2.2,1114111)];let e:=bM x.2.1 [(x.2.2,cx .i32 d.1 1)];(Iv ((x.2.1++iv x.2.2 (List.drop x.1 a))=iv 0 a/\x.1<=q1/\x.2.1.length=x.1))->aj (aw b (ag a)) (aG 0 b/\aw b (ag a)/\bJ (ag e) 8/\∃z:Nat×(List (Int×Int))×Int,aa [a] (aa [ag a] (e=z.2.1/\ay .i32 d.2 1=z.2.2/\ay .i64 b 1=(z.1:Int)/\(Iv (((z.2.1++iv z.2.2 (List.drop z.1 a))=iv 0 a/\z.1<=q1/\z.2.1.length=z.1)/\(q1-z.1)<(q1-x.1)))))) (bJ (ag c) 8/\Iv (c.length<=100000000)/\aa [c] (aU c=lH y/\True))))
def SA (y:(List (Int×Int))×(List (Int×Int))):Prop:=let a:=ag y.1;let q1:=y.1.length;let e:=!(aB a (ag y.2));let d:=decide (y.1=y.2);(aG a 9223372036854775807)->aj e (false=d/\True) ((∃z:Nat,aa [y.1,y.2] (aa [a] (0=(z:Int)/\(Iv (z<=q1/\List.take z y.1=List.take z y.2)))))/\(∀x:Nat,let b:=gt (0,0) y.1 (x:Int).toNat;let c:=gt (0,0) y.2 (x:Int).toNat;let f:=!((aB b.1 c.1)&&(aB b.2 c.2));(Iv (x<=q1/\List.take x y.1=List.take x y.2))->aj (aw (x:Int) a) (aG 0 (x:Int)/\aw (x:Int) a/\aG 0 (x:Int)/\aw (x:Int) (ag y.2)/\aa [b.1,b.2,c.1,c.2] (aj f (false=d/\True) (∃z:Nat,aa [y.1,y.2] (aa [a] (ay .i64 (x:Int) 1=(z:Int)/\(Iv ((z<=q1/\List.take z y.1=List.take z y.2)/\(q1-z)<(q1-x)))))))) (true=d/\True)))
def SB (y:List (Int×Int)):Prop:=let a:=decide (y=aU y);Iv (y.length<=100000000)/\aa [y] (Iv True/\aa [y] (aa [aU y] (aa [a] (True))))
def SC (y:(List (Int×Int))×Int):Prop:=let a:=y.1.length;let q1:=ag y.1;let b:=bk y.1 y.2;let e:=λp:Prop=>aa [y.2] (aa [y.1] (aa [q1] p));(aG q1 9223372036854775807)->(∃z:Nat,e (0=(z:Int)/\(Iv (z<=a/\b=bk (List.drop z y.1) y.2))))/\(∀x:Nat,let c:=gt (0,0) y.1 (x:Int).toNat;let d:Prop:=(∃z:Nat,e (ay .i64 (x:Int) 1=(z:Int)/\(Iv ((z<=a/\b=bk (List.drop z y.1) y.2)/\(a-z)<(a-x)))));(Iv (x<=a/\b=bk (List.drop x y.1) y.2))->aj (aw (x:Int) q1) (aG 0 (x:Int)/\aw (x:Int) q1/\aj (aG c.1 y.2) (aj (aG y.2 c.2) (true=b/\True) (d)) (d)) (false=b/\True))
def Hu (y:(List (Int×Int))×Int):Prop:=let a:=y.1.length;let q1:=ag y.1;let b:=bk y.1 y.2;let e:=λp:Prop=>aa [y.1] (aa [y.2] p);(aG q1 9223372036854775807)->(∃z:Nat,e (0=(z:Int)/\(Iv (z<=a/\b=bk (List.drop z y.1) y.2))))/\(∀x:Nat,let c:=gt (0,0) y.1 (x:Int).toNat;let d:Prop:=(∃z:Nat,e (ay .i64 (x:Int) 1=(z:Int)/\(Iv ((z<=a/\b=bk (List.drop z y.1) y.2)/\(a-z)<(a-x)))));(Iv (x<=a/\b=bk (List.drop x y.1) y.2))->aj (aw (x:Int) q1) (aG 0 (x:Int)/\aw (x:Int) q1/\aj (aG c.1 y.2) (aG 0 (x:Int)/\aw (x:Int) q1/\aj (aG y.2 c.2) (true=b/\True) (d)) (d)) (false=b/\True))
def Hv (y:List (Int×Int)):Prop:=let v:=(c_ y).length;let q1:=y.length;let f:=ag y;let s:=λp:Prop=>aa [y] p;(∃z:Nat,s (ag [0,55296,57344,1114112]=ag (dQ y z)/\0=(z:Int)/\[0,55296,57344,1114112]=dQ y z/\(Iv (z<=q1))))/\(∀x:Nat,let n:=dQ y x;let a:=gt (0,0) y (x:Int).toNat;let r:=bM n [a.1];let t:=([ay .i32 a.2 1]:List Int);let w:=ag (bM n t);let A:=ag (bM r t);let o:=λp:Prop=>aa [a.1,a.2] p;let k:Prop:=(∃z:Nat,s (ag n=ag (dQ y z)/\ay .i64 (x:Int) 1=(z:Int)/\n=dQ y z/\(Iv (z<=q1/\(q1-z)<(q1-x)))));let l:Prop:=(∃z:Nat,s (ag r=ag (dQ y z)/\ay .i64 (x:Int) 1=(z:Int)/\r=dQ y z/\(Iv (z<=q1/\(q1-z)<(q1-x)))));let m:Prop:=(aG 0 (x:Int)/\aw (x:Int) f/\aG 0 (x:Int)/\aw (x:Int) f/\aj (aG a.1 a.2) (aG 0 (x:Int)/\aw (x:Int) f/\aj (aG 0 a.2) (aG 0 (x:Int)/\aw (x:Int) f/\aa [a.1,a.2,a.2,a.2] (aj (aw a.2 1114111) (aG 0 (x:Int)/\aw (x:Int) f/\bJ w 4/\∃z:Nat,s (w=ag (dQ y z)/\ay .i64 (x:Int) 1=(z:Int)/\bM n t=dQ y z/\(Iv (z<=q1/\(q1-z)<(q1-x))))) (k))) (aa [a.1,a.2,a.2] (k))) (o (k)));(Iv (x<=q1))->aj (aw (x:Int) f) (aG 0 (x:Int)/\aw (x:Int) f/\aG 0 (x:Int)/\aw (x:Int) f/\aj (aG a.1 a.2) (aG 0 (x:Int)/\aw (x:Int) f/\aj (aG 0 a.1) (aG 0 (x:Int)/\aw (x:Int) f/\aa [a.1,a.2,a.1,a.1] (aj (aG a.1 1114111) (aG 0 (x:Int)/\aw (x:Int) f/\bJ (ag r) 4/\aG 0 (x:Int)/\aw (x:Int) f/\aG 0 (x:Int)/\aw (x:Int) f/\aj (aG a.1 a.2) (aG 0 (x:Int)/\aw (x:Int) f/\aj (aG 0 a.2) (aG 0 (x:Int)/\aw (x:Int) f/\aa [a.1,a.2,a.2,a.2] (aj (aw a.2 1114111) (aG 0 (x:Int)/\aw (x:Int) f/\bJ A 4/\∃z:Nat,s (A=ag (dQ y z)/\ay .i64 (x:Int) 1=(z:Int)/\bM r t=dQ y z/\(Iv (z<=q1/\(q1-z)<(q1-x))))) (l))) (aa [a.1,a.2,a.2] (l))) (o (l))) (m))) (aa [a.1,a.2,a.1] (m))) (o (m))) ((∃z:Nat×(List Int),ag n=ag z.2/\1=(z.1:Int)/\n=z.2/\(Iv (1<=z.1/\z.1<=z.2.length/\List.Perm z.2 (c_ y)/\D' z.2 z.1)))/\(∀g:Nat×(List Int),let h:=(g.1:Int);let u:=aw h (ag g.2);(Iv (1<=g.1/\g.1<=g.2.length/\List.Perm g.2 (c_ y)/\D' g.2 g.1))->aj u (∃z:Nat×(List Int),(∃b:Nat×(List Int),aa [h] (ag g.2=ag b.2/\h=(b.1:Int)/\g.2=b.2/\(Iv (b.1<=z.1/\z.1<b.2.length/\List.Perm b.2 (c_ y)/\pb b.2 b.1 z.1))))/\(∀e:Nat×(List Int),let c:=(e.1:Int);let d:=cx .i64 c 1;let i:=gt 0 e.2 c.toNat;let j:=gt 0 e.2 d.toNat;let q:Prop:=(∃b:Nat×(List Int),ag e.2=ag b.2/\ay .i64 h 1=(b.1:Int)/\e.2=b.2/\(Iv ((1<=b.1/\b.1<=b.2.length/\List.Perm b.2 (c_ y)/\D' b.2 b.1)/\(v-b.1)<(v-g.1))));(Iv (e.1<=z.1/\z.1<e.2.length/\List.Perm e.2 (c_ y)/\pb e.2 e.1 z.1))->aj (aw 0 c) (aG 0 d/\aw d (ag e.2)/\aG 0 c/\aw c (ag e.2)/\aa [j,i] (aj (aw i j) (aG 0 c/\aw c (ag e.2)/\aG 0 d/\aw d (ag e.2)/\aG 0 d/\aw d (ag e.2)/\aG 0 c/\aw c (ag e.2)/\aa [i,j] (∃b:Nat×(List Int),aa [h] (ag e.2=ag b.2/\d=(b.1:Int)/\cS (cS e.2 d.toNat i) c.toNat j=b.2/\(Iv ((b.1<=z.1/\z.1<b.2.length/\List.Perm b.2 (c_ y)/\pb b.2 b.1 z.1)/\b.1<e.1))))) (q))) (q))) (g.2=bn y/\True))))
def SF (y:(List (Int×Int))×Int×Int):Prop:=let a:=ag y.1;let q1:=cx .i64 a 1;let b:=cr y.1 y.2.1 y.2.2;let c:=bM y.1 [(y.2.1,y.2.2)];let d:=gt (0,0) y.1 q1.toNat;let f:=aB (ay .i32 d.2 1) y.2.1;let e:Prop:=(bJ (ag c) 8/\ag c=ag b/\c=b/\True);aj (aw 0 a) (aG 0 q1/\aw q1 a/\aj f (aG 0 q1/\aw q1 a/\a=ag b/\cS y.1 q1.toNat (d.1,y.2.2)=b/\True) (e)) (e)
def Hw (y:List (Int×Int)):Prop:=let e:=bn y;let q1:=e.length;let d:=ag e;let m:=λp:Prop=>aa [y] (aa [e] p);Iv (y.length<=2000000)/\aa [y] ((∃z:Nat,let n:=dJ (bk y) e z;m (0=ag n/\0=(z:Int)/\[]=n/\(Iv ((z+1)<=q1))))/\(∀x:Nat,let b:=dJ (bk y) e x;let c:=ay .i64 (x:Int) 1;let a:=gt 0 e (x:Int).toNat;let g:=gt 0 e c.toNat;let h:=cx .i32 g 1;let f:Prop:=(∃z:Nat,let i:=dJ (bk y) e z;m (ag b=ag i/\c=(z:Int)/\b=i/\(Iv ((z+1)<=q1/\(q1-z)<(q1-x)))));let o:Prop:=(aa [a,a] (aj (bk y a) (aG 0 (x:Int)/\aw (x:Int) d/\aG 0 c/\aw c d/\Iv (YK b)/\aa [ag b,a,h] (aa [b] (aa [a,g] (∃z:Nat,let j:=dJ (bk y) e z;m (ag (cr b a h)=ag j/\c=(z:Int)/\cr b a h=j/\(Iv ((z+1)<=q1/\(q1-z)<(q1-x)))))))) (f)));(Iv ((x+1)<=q1))->aj (aw c d) (aG 0 (x:Int)/\aw (x:Int) d/\aG 0 c/\aw c d/\aj (aw a g) (aG 0 (x:Int)/\aw (x:Int) d/\aj (aw a 55296) (aG 0 (x:Int)/\aw (x:Int) d/\Iv True/\aa [y] (aa [a,a,g,a,a] (aj (bk y a) (aG 0 (x:Int)/\aw (x:Int) d/\aG 0 c/\aw c d/\Iv (YK b)/\aa [ag b,a,h] (aa [b] (aa [a,g] (∃z:Nat,let k:=dJ (bk y) e z;m (ag (cr b a h)=ag k/\c=(z:Int)/\cr b a h=k/\(Iv ((z+1)<=q1/\(q1-z)<(q1-x)))))))) (f)))) (aG 0 (x:Int)/\aw (x:Int) d/\aj (aw 57343 a) (aG 0 (x:Int)/\aw (x:Int) d/\Iv True/\aa [y] (aa [a,a,g,a,a,a] (aj (bk y a) (aG 0 (x:Int)/\aw (x:Int) d/\aG 0 c/\aw c d/\Iv (YK b)/\aa [ag b,a,h] (aa [b] (aa [a,g] (∃z:Nat,let l:=dJ (bk y) e z;m (ag (cr b a h)=ag l/\c=(z:Int)/\cr b a h=l/\(Iv ((z+1)<=q1/\(q1-z)<(q1-x)))))))) (f)))) (aa [a,g,a,a] (f)))) (aa [a,g] (f))) (b=aU y/\True)))
def Hy (y:List (Int×Int)):Prop:=let e:=bn y;let q1:=e.length;let d:=ag e;let m:=λp:Prop=>aa [y] (aa [e] p);Iv (y.length<=2000000)/\aa [y] ((∃z:Nat,let n:=dJ (λ(r:Int)=>!(bk y r)) e z;m (0=ag n/\0=(z:Int)/\[]=n/\(Iv ((z+1)<=q1))))/\(∀x:Nat,let b:=dJ (λ(r:Int)=>!(bk y r)) e x;let c:=ay .i64 (x:Int) 1;let a:=gt 0 e (x:Int).toNat;let g:=gt 0 e c.toNat;let h:=cx .i32 g 1;let f:Prop:=(∃z:Nat,let i:=dJ (λ(r:Int)=>!(bk y r)) e z;m (ag b=ag i/\c=(z:Int)/\b=i/\(Iv ((z+1)<=q1/\(q1-z)<(q1-x)))));let o:Prop:=(aa [a,a] (aj (!(bk y a)) (aG 0 (x:Int)/\aw (x:Int) d/\aG 0 c/\aw c d/\Iv (YK b)/\aa [ag b,a,h] (aa [b] (aa [a,g] (∃z:Nat,let j:=dJ (λ(r:Int)=>!(bk y r)) e z;m (ag (cr b a h)=ag j/\c=(z:Int)/\cr b a h=j/\(Iv ((z+1)<=q1/\(q1-z)<(q1-x)))))))) (f)));(Iv ((x+1)<=q1))->aj (aw c d) (aG 0 (x:Int)/\aw (x:Int) d/\aG 0 c/\aw c d/\aj (aw a g) (aG 0 (x:Int)/\aw (x:Int) d/\aj (aw a 55296) (aG 0 (x:Int)/\aw (x:Int) d/\Iv True/\aa [y] (aa [a,a,g,a,a] (aj (!(bk y a)) (aG 0 (x:Int)/\aw (x:Int) d/\aG 0 c/\aw c d/\Iv (YK b)/\aa [ag b,a,h] (aa [b] (aa [a,g] (∃z:Nat,let k:=dJ (λ(r:Int)=>!(bk y r)) e z;m (ag (cr b a h)=ag k/\c=(z:Int)/\cr b a h=k/\(Iv ((z+1)<=q1/\(q1-z)<(q1-x)))))))) (f)))) (aG 0 (x:Int)/\aw (x:Int) d/\aj (aw 57343 a) (aG 0 (x:Int)/\aw (x:Int) d/\Iv True/\aa [y] (aa [a,a,g,a,a,a] (aj (!(bk y a)) (aG 0 (x:Int)/\aw (x:Int) d/\aG 0 c/\aw c d/\Iv (YK b)/\aa [ag b,a,h] (aa [b] (aa [a,g] (∃z:Nat,let l:=dJ (λ(r:Int)=>!(bk y r)) e z;m (ag (cr b a h)=ag l/\c=(z:Int)/\cr b a h=l/\(Iv ((z+1)<=q1/\(q1-z)<(q1-x)))))))) (f)))) (aa [a,g,a,a] (f)))) (aa [a,g] (f))) (b=lH y/\True)))
def Hz (y:List (Int×Int)):Prop:=let a:=aU y;let q1:=y.length;let f:=!(aB (ag a) (ag y));let d:Prop:=(false=decide (y=a)/\True);Iv (q1<=2000000)/\aa [y] (aj f (d) ((∃z:Nat,aa [y] (aa [a] (0=(z:Int)/\(Iv (z<=q1/\List.take z a=List.take z y)))))/\(∀x:Nat,let e:=aw (x:Int) (ag y);let b:=gt (0,0) y (x:Int).toNat;let c:=gt (0,0) a (x:Int).toNat;let g:=!((aB c.1 b.1)&&(aB c.2 b.2));(Iv (x<=q1/\List.take x a=List.take x y))->aj e (aG 0 (x:Int)/\aw (x:Int) (ag a)/\aG 0 (x:Int)/\e/\aa [c.1,c.2,b.1,b.2] (aj g (d) (∃z:Nat,aa [y] (aa [a] (ay .i64 (x:Int) 1=(z:Int)/\(Iv ((z<=q1/\List.take z a=List.take z y)/\(q1-z)<(q1-x)))))))) (true=decide (y=a)/\True))))
def QeI (h:i<l.length) (r:Int):bk (l.drop i) r=((decide ((l.getD i (0,0)).1<=r)&&decide (r<=(l.getD i (0,0)).2))||bk (l.drop (i+1)) r):=QI (getD_eq h (0,0)) r
theorem Qoo (y:List Rg×Int) (a:Qh7.pre y):SC y:=by
 have⟨l,r⟩:=y;unfold SC;simp only[bL,gz,au,gt,Zad];intro hl;refine⟨⟨0,rfl,Zaj _,rfl⟩,λi hi=>?_⟩;have⟨h1,b⟩:=hi.out;rw[b];refine⟨λh=>⟨ω,h,?_⟩,λh=>?_⟩
 ·rw[QeI (show i<l.length by omega)];grind
 ·rw[Zbu ω];rfl
theorem Qij (y:List Rg×Int) (a:x0.pre y):Hu y:=by
 have hs:=Qoo y a;unfold Hu;unfold SC at hs;simp only[bL,gz,au,gt,Zad] at hs ⊢;grind
def SK:Ok x0:=okZ [] f286 Qh8 trivial Qij
theorem AT {α:Type} {a b:List α} (d:α) (c:i<a.length) (f:i<b.length) (h:a.take i=b.take i) (e:a.getD i d=b.getD i d):a.take (i+1)=b.take (i+1):=by
 grind [List.take_succ]
theorem Qop (y:List Rg×List Rg) (a:Et.pre y):SA y:=by
 unfold SA;simp only[bL,gz,au,gt,Zad,Zan,Zao,ZaW,Zbz];grind [AT]
def Qb6:Ok Et:=okZ [] f272 Qog trivial Qop
def Qoq (y:List Rg) (a:Eu.pre y):SB y:=by
 unfold SB;simp only[gz];exact⟨⟨a⟩,⟨trivial⟩⟩
def Qb7 (h:Ok dB):Ok Eu:=okZ [dB,Et] f248 Qoi ⟨h,Qb6⟩ Qoq
def YP (h:i<(aU l).length):uy ((aU l).getD i (0,0)):=(dW l).1.1 _ (ZaJ (getD_eq h (0,0)))
def SM (l:List Rg):(aU l).length<=2*l.length:=(dW l).2.2
theorem Qor (y:List Rg) (a:Hs.pre y):Sz y:=by
 have a:y.length<=1000000:=a;have f:=SM y;unfold Sz;simp only[bL,gz,au,aT,br,gt,Zad];refine⟨⟨ω⟩,⟨(0,[],0),rfl,rfl,rfl,rfl,Zaj _,rfl⟩,λx c=>?_⟩;have⟨i,out,nx⟩:=x;have⟨h1,d,e⟩:=c.out;simp only at*
 refine⟨λh=>?_,λh=>?_⟩
 ·have⟨g1,g2,g3,_⟩:=YP (l:=y) (i:=i) ω;have b:cx .i32 ((aU y).getD i (0,0)).1 1=((aU y).getD i (0,0)).1-1:=dG (cL.2 ⟨by show(-2147483648:Int)<=_;omega,by show _<=(2147483647:Int);omega⟩);have e2:ay .i32 ((aU y).getD i (0,0)).2 1=((aU y).getD i (0,0)).2+1:=dG (cL.2 ⟨by show(-2147483648:Int)<=_;omega,by show _<=(2147483647:Int);omega⟩);refine⟨ω,h,by simp;omega,(i+1,out++[(nx,((aU y).getD i (0,0)).1-1)],((aU y).getD i (0,0)).2+1),by rw[b],e2,ba ω ω,⟨?_,ω,by grind⟩,ω⟩;grind [List.drop_eq_getElem_cons,iv]
 ·rw[Zbu ω] at h1;have h1:out++[(nx,1114111)]=iv 0 (aU y):=h1;rw[h1];have:=Ay 0 (aU y);exact⟨ω,⟨ω⟩,rfl⟩
def Qb8 (h:Ok dB):Ok Hs:=okZ [dB] f293 Qoe h Qor
theorem Qos (y:List Rg×Int×Int) (d:Ht.pre y):SF y:=by
 have⟨l,lo,hi⟩:=y;obtain⟨h1,c⟩:YK l:=d;unfold SF;simp only[bL,pd,Zai,au,aT,br,gt];have a:(((l++[(lo,hi)]).length:Nat):Int)*((8:Nat):Int)<=140737488355328:=by grind
 rcases Zcu l with rfl | ⟨m,p,rfl⟩
 ·exact⟨λh=>absurd h (by simp),λ_=>⟨a,rfl,rfl⟩⟩
 ·simp only[Zcv] at*
  have e:=c p (by simp);have b:cx .i64 ((m++[p]).length:Int) 1=m.length:=by grind
  rw[b,Zad];have e2:ay .i32 p.2 1=p.2+1:=dG (cL.2 ⟨by show(-2147483648:Int)<=_;omega,by show _<=(2147483647:Int);omega⟩);grind [cr,cS]
def Qb9:Ok Ht:=okZ [] f287 Qom trivial Qos
def Ev {a b:List Int} (h:a.Perm b) (c:a.Pairwise (· <= ·)) (d:b.Pairwise (· <= ·)):a=b:=List.Perm.eq_of_pairwise (le:=λx y=>x<=y) (λ_ _ _ _ h1 e=>ω) c d h
def HA (m:List Int):(KN m).Perm m:=List.mergeSort_perm m _
theorem Cs (m:List Int):(KN m).Pairwise (· <= ·):=by
 grind [List.pairwise_mergeSort,KN]
theorem gB (y:List Rg):(bn y).Perm (c_ y):=HA _
theorem jv (y:List Rg):(bn y).Pairwise (· <= ·):=Cs _
theorem rf (y:List Rg):4<=(bn y).length/\(bn y).length<=4+2*y.length:=by
 rw[(gB y).length_eq];unfold c_;have:=fA lT 2 tt y;grind
def Ew {y:List Rg} (h:i<(bn y).length):0<=(bn y).getD i 0/\(bn y).getD i 0<=1114112:=mB _ ((gB y).mem_iff.1 (ZaJ (getD_eq h 0)))
theorem NC (y:List Rg):dJ (bk y) (bn y) ((bn y).length-1)=aU y:=by
 grind [Eb,gB,jv,AA,Ec]
theorem SN (y:List Rg):dJ (λr=>!bk y r) (bn y) ((bn y).length-1)=lH y:=by
 have hs:Ko (λr=>!bk y r) (bn y):=λk hk r h1 a=>by
  have:=AA (gB y) (jv y) k hk r h1 a;grind
 grind [Eb,gB,jv,Yi]
def KO (b:l.length<=2000000) (c:Int->Bool) (h:i+1<=(bn l).length):YK (dJ c (bn l) i):=by
 have:=QT c (bn l) i;have hl:=rf l;refine⟨ω,Yh (λx a=>?_) i h⟩;exact mB _ ((gB l).mem_iff.1 a)
theorem KQ (c:Int->Bool) (m:List Int) (i:Nat):dJ c m (i+1)=if m.getD i 0<m.getD (i+1) 0/\(m.getD i 0<55296\/57343<m.getD i 0)/\c (m.getD i 0)=true then cr (dJ c m i) (m.getD i 0) (m.getD (i+1) 0-1) else dJ c m i:=by
 show(if QR c m i=true then _ else _)=_
 grind [QR]
theorem Qik (y:List Rg) (c:lW.pre y):Hw y:=by
 have c:y.length<=2000000:=c;have hl:=rf y;unfold Hw;simp only[bL,gz,au,gt,Zad];refine⟨⟨c⟩,⟨0,rfl,rfl,rfl,⟨ω⟩⟩,λi hi=>?_⟩;have hi:=hi.out;have j:ay .i64 (i:Int) 1=((i+1:Nat):Int):=ba ω ω;rw[j,Zad];refine⟨λh=>?_,λh=>?_⟩
 ·have⟨b1,l⟩:=Ew (y:=y) (i:=i+1) ω;have k:=KQ (bk y) (bn y) i;have e2:cx .i32 ((bn y).getD (i+1) 0) 1=(bn y).getD (i+1) 0-1:=dG (cL.2 ⟨by show(-2147483648:Int)<=_;omega,by show _<=(2147483647:Int);omega⟩);have g:=KO c (bk y) hi;rw[e2];generalize (bn y).getD i 0=A at*
  generalize (bn y).getD (i+1) 0=B at*
  have go:A<B/\(A<55296\/57343<A)/\bk y A->∃z:Nat,((cr (dJ (bk y) (bn y) i) A (B-1)).length:Int)=((dJ (bk y) (bn y) z).length:Int)/\((i+1:Nat):Int)=(z:Int)/\cr (dJ (bk y) (bn y) i) A (B-1)=dJ (bk y) (bn y) z/\Iv (z+1<=(bn y).length/\(bn y).length-z<(bn y).length-i):=λa=>by
   grind
  have no:¬(A<B/\(A<55296\/57343<A)/\bk y A)->∃z:Nat,((dJ (bk y) (bn y) i).length:Int)=((dJ (bk y) (bn y) z).length:Int)/\((i+1:Nat):Int)=(z:Int)/\dJ (bk y) (bn y) i=dJ (bk y) (bn y) z/\Iv (z+1<=(bn y).length/\(bn y).length-z<(bn y).length-i):=λa=>by
   rw[Zaa a] at k;grind
  refine⟨ω,ω,ω,h,λd=>⟨ω,ω,λe=>⟨ω,ω,⟨trivial⟩,λb=>⟨ω,ω,ω,h,⟨g⟩,go ⟨d,.inl e,b⟩⟩,λb=>no λa=>by grind⟩,λe=>⟨ω,ω,λf=>⟨ω,ω,⟨trivial⟩,λb=>⟨ω,ω,ω,h,⟨g⟩,go ⟨d,.inr f,b⟩⟩,λb=>no λa=>by grind⟩,λf=>no λa=>ω⟩⟩,λd=>no λa=>ω⟩
 ·grind [NC]
def HB (h:Ok gA):Ok lW:=okZ [gA,x0,Ht] f257 Qid ⟨h,SK,Qb9⟩ Qik
theorem Qil (y:List Rg) (b:pr.pre y):Hy y:=by
 have b:y.length<=2000000:=b;have hl:=rf y;unfold Hy;simp only[bL,gz,Zan,Zao,au,gt,Zad];refine⟨⟨b⟩,⟨0,rfl,rfl,rfl,⟨ω⟩⟩,λi hi=>?_⟩;have hi:=hi.out;have j:ay .i64 (i:Int) 1=((i+1:Nat):Int):=ba ω ω;rw[j,Zad];refine⟨λh=>?_,λh=>?_⟩
 ·have⟨b1,l⟩:=Ew (y:=y) (i:=i+1) ω;have k:=KQ (λr=>!bk y r) (bn y) i;have e2:cx .i32 ((bn y).getD (i+1) 0) 1=(bn y).getD (i+1) 0-1:=dG (cL.2 ⟨by show(-2147483648:Int)<=_;omega,by show _<=(2147483647:Int);omega⟩);have g:=KO b (λr=>!bk y r) hi;rw[e2];generalize (bn y).getD i 0=A at*
  generalize (bn y).getD (i+1) 0=B at*
  have go:A<B/\(A<55296\/57343<A)/\(!bk y A)->∃z:Nat,((cr (dJ (λr=>!bk y r) (bn y) i) A (B-1)).length:Int)=((dJ (λr=>!bk y r) (bn y) z).length:Int)/\((i+1:Nat):Int)=(z:Int)/\cr (dJ (λr=>!bk y r) (bn y) i) A (B-1)=dJ (λr=>!bk y r) (bn y) z/\Iv (z+1<=(bn y).length/\(bn y).length-z<(bn y).length-i):=λa=>by
   grind
  have no:¬(A<B/\(A<55296\/57343<A)/\(!bk y A))->∃z:Nat,((dJ (λr=>!bk y r) (bn y) i).length:Int)=((dJ (λr=>!bk y r) (bn y) z).length:Int)/\((i+1:Nat):Int)=(z:Int)/\dJ (λr=>!bk y r) (bn y) i=dJ (λr=>!bk y r) (bn y) z/\Iv (z+1<=(bn y).length/\(bn y).length-z<(bn y).length-i):=λa=>by
   rw[Zaa a] at k;grind
  refine⟨ω,ω,ω,h,λc=>⟨ω,ω,λe=>⟨ω,ω,⟨trivial⟩,λd=>⟨ω,ω,ω,h,⟨g⟩,go ⟨c,.inl e,by grind⟩⟩,λd=>no λa=>by grind⟩,λe=>⟨ω,ω,λf=>⟨ω,ω,⟨trivial⟩,λd=>⟨ω,ω,ω,h,⟨g⟩,go ⟨c,.inr f,by grind⟩⟩,λd=>no λa=>by grind⟩,λf=>no λa=>ω⟩⟩,λc=>no λa=>ω⟩
 ·grind [SN]
def QeJ (h:Ok gA):Ok pr:=okZ [gA,x0,Ht] f280 Qif ⟨h,SK,Qb9⟩ Qil
theorem Qim (y:List Rg) (a:x_.pre y):Hz y:=by
 have a:y.length<=2000000:=a;unfold Hz;simp only[bL,gz,au,gt,Zad,Zan,Zao,ZaW,Zbz];grind [AT]
def SO (h:Ok gA):Ok x_:=okZ [lW] f256 Qih (HB h) Qim
theorem HC {y:List Rg} (h:i<=y.length):(dQ y i).length<=4+2*y.length:=by
 unfold dQ;have:=fA lT 2 tt (y.take i);grind
theorem Ey {y:List Rg} (h:i<y.length):dQ y (i+1)=dQ y i++lT (y.getD i (0,0)):=by
 grind [dQ,List.take_succ]
theorem Qin (y:List Rg) (n:gA.pre y):Hv y:=by
  have n:y.length<=2000000:=n;unfold Hv;simp only[bL,gz,au,aT,br,gt,Zad];refine⟨⟨0,by rfl,rfl,by rfl,⟨Zaj _⟩⟩,λi hi=>⟨λh=>?_,λh=>⟨⟨(1,dQ y i),rfl,rfl,rfl,Zah _,?_,?_,?_⟩,λx s=>⟨λg=>⟨(x.1,x.2),⟨(x.1,x.2),rfl,rfl,rfl,?_⟩,λz hz=>?_⟩,λg=>?_⟩⟩⟩⟩
  · have hs:=Ey (y:=y) (i:=i) ω;have hl:=HC (y:=y) (i:=i) ω;have fin:∀L:List Int,L=dQ y i++lT (y.getD i (0,0))->∃z:Nat,(L.length:Int)=((dQ y z).length:Int)/\ay .i64 (i:Int) 1=(z:Int)/\L=dQ y z/\Iv (z<=y.length/\y.length-z<y.length-i):=λL v=>by
      grind
    generalize y.getD i (0,0)=A at*
    have⟨lo,c⟩:=A;have e:0<=c->c<1114111->ay .i32 c 1=c+1:=λa b=>dG (cL.2 ⟨by show(-2147483648:Int)<=_;omega,by show _<=(2147483647:Int);omega⟩)
    have F:∀(a b:Bool),m1 (lo,c)=a->m2 (lo,c)=b->lT (lo,c)=(if a=true then[lo] else[])++(if b=true then[c+1] else[]):=λa b f e2=>by grind [lT]
    repeat' first | (intro _) | (apply And.intro)
    all_goals first
      | omega
      | (simp only[Zab,Zae,Zak];omega)
      | (refine fin _ ?_
         first
           | (rw[F true true (by simp[m1];omega) (by simp[m2];omega),e ω ω];simp;done)
           | (rw[F true false (by simp[m1];omega) (by simp[m2];omega)];simp;done)
           | (rw[F false true (by simp[m1];omega) (by simp[m2];omega),e ω ω];simp;done)
           | (rw[F false false (by simp[m1];omega) (by simp[m2];omega)];simp;done))
  · grind [dQ]
  · grind [dQ,c_]
  · intro a b h1 g;omega
  · grind [Cg]
  · have⟨i2,m⟩:=x;have⟨k,d⟩:=z;have⟨g1,g2,g3,g4⟩:=hz.out;have r:d.length=(c_ y).length:=g3.length_eq;have q:(c_ y).length<=4000004:=by
      have:=fA lT 2 tt y;unfold c_;grind
    simp only at*
    have out:(k=0\/d.getD (k-1) 0<=d.getD k 0)->∃z:Nat×List Int,(d.length:Int)=(z.2.length:Int)/\ay .i64 (i2:Int) 1=(z.1:Int)/\d=z.2/\Iv ((1<=z.1/\z.1<=z.2.length/\z.2.Perm (c_ y)/\D' z.2 z.1)/\(c_ y).length-z.1<(c_ y).length-i2):=λhk=>
      ⟨(i2+1,d),rfl,ba ω ω,rfl,⟨ω,by assumption,g3,GK g4 hk⟩,ω⟩
    refine⟨λp=>?_,λp=>out (.inl ω)⟩;have f:cx .i64 (k:Int) 1=((k-1:Nat):Int):=by grind
    rw[f,Zad];refine⟨ω,ω,ω,ω,λl=>⟨ω,ω,ω,ω,ω,ω,ω,ω,(k-1,swap d (k-1)),?_,rfl,?_,⟨ω,?_,(swap_perm d (k-1) ω).trans g3,?_⟩,ω⟩,λl=>out (.inr l)⟩
    · rw[D8]
    · grind [swap,cS]
    · grind [D8]
    · grind [D_]
  · have⟨t,u,o,j⟩:=s.out;have:x.1=x.2.length:=ω;rw[this] at j;exact Ev (o.trans (gB y).symm) (QQ j) (jv y)
def ri:Ok gA:=okZ [] f285 Qia trivial Qin
def cX:aW:=⟨0,0,0,[]⟩
def ij (n m:Int):Bool:=decide (0<=n)&&decide (n<m)
def SP:bh D:=bO 242 (Int×Int) (λa _=>match a with
 | [n,m]=>aP (cT n) λ_ n=>aP (cT m) λ_ m=>.ret (n,m)
 | _=>.fail) (λ_=>True) (λy=>[Qvo y.1,Qvo y.2]) λy=>.bool (ij y.1 y.2)
def HD (p:iC) (i:Int):Bool:=
 let x:=p.af.getD i.toNat cX
 let behind:=decide (i+1<p.af.length)
 if x.op≠1/\0<x.bm.length\/x.op≠2/\x.y≠0 then false
 else if x.op=1 then behind&&decide (x.x=0)&&decide (x.bm=aU x.bm)
 else if x.op=2 then ij x.x p.af.length&&ij x.y p.af.length
 else if x.op=3 then ij x.x p.af.length
 else if x.op=4 then behind&&ij x.x 10
 else if x.op=5\/x.op=6 then behind&&decide (x.x=0)
 else if x.op=7 then ij x.x p.av.length
 else false
def YQ (y:iC×Int):Prop:=0<=y.2/\y.2<y.1.af.length/\y.1.af.length<=1000/\∀x∈y.1.af,x.bm.length<=1000000
def YR:bh D:=bO 241 (iC×Int) (λa s=>match a with
 | [p,i]=>az (Hk p s) λp=>aP (cT i) λ_ i=>.ret (p,i)
 | _=>.fail) YQ (λy=>[Hj y.1,Qvo y.2]) λy=>.bool (HD y.1 y.2)
def SQ (y:Int×Int):Prop:=aj (aG 0 y.1) (aw y.1 y.2=ij y.1 y.2/\True) (false=ij y.1 y.2/\True)
def SR (y:iC×Int):Prop:=let h:=ag y.1.av;let q1:=ag y.1.af;let b:=HD y.1 y.2;let g:=aw (ay .i64 y.2 1) q1;let a:=gt (aW.mk 0 0 0 []) y.1.af y.2.toNat;let i:=aB a.x 0;let j:=aB a.op 1;let k:=aB a.op 2;let l:=ij a.x q1;let m:=aw 0 (ag a.bm);let c:Prop:=(aj g (i=b/\True) (false=b/\True));let d:Prop:=(aj (aB a.op 7) (Iv True/\RAH a.x h (ij a.x h=b/\True)) (false=b/\True));let e:Prop:=(aj j (aj g (aj i (Iv (a.bm.length<=100000000)/\RAG a.bm (decide (a.bm=aU a.bm)=b/\True)) (false=b/\True)) (false=b/\True)) (aj k (Iv True/\RAH a.x q1 (aj l (Iv True/\aa [a.y,q1] (ij a.y q1=b/\True)) (false=b/\True))) (aj (aB a.op 3) (Iv True/\RAH a.x q1 (l=b/\True)) (aj (aB a.op 4) (aj g (Iv True/\aa ([a.x,10]:List Int) (ij a.x 10=b/\True)) (false=b/\True)) (aj (aB a.op 5) (aj (aB a.op 5) (c) (d)) (aj (aB a.op 6) (c) (d)))))));let f:Prop:=(aj (!k) (aj (!(aB a.y 0)) (false=b/\True) (e)) (e));aG 0 y.2/\aw y.2 q1/\aj (!j) (aj m (false=b/\True) (f)) (f)
theorem Qov (y:Int×Int):SQ y:=by
 grind [SQ,ij]
def Qca:Ok SP:=okZ (V:=SQ) [] f242 (λ_=>dY ()) trivial λy _=>Qov y
def Ez (x:aW) (b:Bool) (n m:Int):Bool:=
 if x.op≠1/\0<x.bm.length\/x.op≠2/\x.y≠0 then false
 else if x.op=1 then b&&decide (x.x=0)&&decide (x.bm=aU x.bm)
 else if x.op=2 then ij x.x n&&ij x.y n
 else if x.op=3 then ij x.x n
 else if x.op=4 then b&&ij x.x 10
 else if x.op=5\/x.op=6 then b&&decide (x.x=0)
 else if x.op=7 then ij x.x m
 else false
theorem Qow (y:iC×Int) (i:YQ y):SR y:=by
 obtain⟨h1,d,l,f⟩:=i;have hi:ay .i64 y.2 1=y.2+1:=ba ω ω;have g:(gt (aW.mk 0 0 0 []) y.1.af y.2.toNat).bm.length<=1000000:=by
  grind
 have c:HD y.1 y.2=Ez (gt (aW.mk 0 0 0 []) y.1.af y.2.toNat) (aw (y.2+1) (ag y.1.af)) (ag y.1.af) (ag y.1.av):=rfl;have a:aw y.2 (ag y.1.af):=dA.2 d;unfold SR;rw[c,hi];generalize gt (aW.mk 0 0 0 []) y.1.af y.2.toNat=x at g ⊢;simp only[bC,fm];refine⟨h1,a,?_⟩;clear f c a;have h:x.bm.length<=100000000:=ω;have j:aw 0 (ag x.bm)=!(x.bm==[]):=by cases x.bm<;>simp[aw,ag]
 have k:(0<x.bm.length)=((!(x.bm==[]))):=by grind
 unfold Ez;simp only[j,k];generalize (x.bm==[])=e;generalize aw (y.2+1) (ag y.1.af)=b;generalize ag y.1.af=n;generalize ag y.1.av=m;generalize ij x.x n=q;generalize ij x.y n=r;generalize ij x.x 10=s;generalize ij x.x m=w4;generalize decide (x.bm=aU x.bm)=w5;by_cases u:x.y=0<;>by_cases t:x.x=0<;>cases e<;>cases b
 all_goals
  by_cases o:x.op=1
  ·grind
  by_cases p:x.op=2
  ·grind
  grind
def Qio (a:Ok dB):Ok YR:=okZ [SP,Eu] f241 (λ_=>dY ()) ⟨Qca,Qb7 a⟩ Qow
def j4 (af:List aW):Nat->List Bool->List Int->List Bool
 | 0,s,_=>s
 | f+1,s,l=>if l.length=0 then s else
  let i:=l.getD (l.length-1) 0
  let k:=l.take (l.length-1)
  let x:=af.getD i.toNat cX
  if s.getD i.toNat false=true then j4 af f s k
  else if x.op=2 then j4 af f (s.set i.toNat true) (k++[x.x,x.y])
  else if x.op=3 then j4 af f (s.set i.toNat true) (k++[x.x])
  else if x.op=7 then j4 af f (s.set i.toNat true) k
  else j4 af f (s.set i.toNat true) (k++[i+1])
def KR (n:Nat):List Bool:=List.replicate n false
def lJ (af:List aW) (start:Int):List Bool:=j4 af (3*af.length+1) (KR af.length) [start]
def tgP (af:List aW):Prop:=af.length<=1000/\∀i:Nat,i<af.length->((af.getD i cX).op=2->0<=(af.getD i cX).x/\(af.getD i cX).x<af.length/\0<=(af.getD i cX).y/\(af.getD i cX).y<af.length)/\((af.getD i cX).op=3->0<=(af.getD i cX).x/\(af.getD i cX).x<af.length)/\((af.getD i cX).op≠2->(af.getD i cX).op≠3->(af.getD i cX).op≠7->i+1<af.length)
def ND (y:List aW×Int):Prop:=tgP y.1/\0<=y.2/\y.2<y.1.length
def SS:bh D:=bO 243 (List aW×Int) (λa s=>match a with
 | [p,i]=>az (aL D s 8 p) λp=>aP (cT i) λ_ i=>.ret ((p:List aW),i)
 | _=>.fail) ND (λy=>[.list 8 y.1,Qvo y.2]) λy=>.list 17 (lJ y.1 y.2)
structure sy where
 f:Nat
 s:List Bool
 l:List Int
def qC (y:List aW×Int) (x:sy):Prop:=x.s.length=y.1.length/\(∀i∈x.l,0<=i/\i<y.1.length)/\3*x.s.count false+x.l.length<=x.f/\x.f<=3*y.1.length+1/\j4 y.1 x.f x.s x.l=lJ y.1 y.2
def Qox (y:SS.Y):cH D:=⟨[],[1,2],[(60,⟨sy,[0],λx=>[(5,.own 0 1 (ag x.s)),(6,.own 1 1 (ag x.l))],[],λx=>[(0,.arr 17 x.s 4 false),(1,.arr 5 x.l 3 false)],2,qC y,λx=>x.f⟩)],[],1,[]⟩
def F5 (p:iC):Prop:=p.af.length<=400/\p.av.length<=8/\(∀i:Nat,i<p.af.length->HD p i)/\(∀x∈p.af,x.bm.length<=1000000)/\tgP p.af/\∀r:Nat,r<p.av.length->0<=p.av.getD r 0/\p.av.getD r 0<p.af.length/\∀i:Nat,i<p.af.length->(lJ p.af (p.av.getD r 0)).getD i false->(p.af.getD i cX).op=7->(p.af.getD i cX).x=r
def NF:bh D:=bO 203 iC (λa s=>match a with
 | [p]=>Hk p s
 | _=>.fail) F5 (λy=>[Hj y]) λ_=>.lit true
def SU (y:iC):Nat×AO D.E:=(0,.cells [.list 8 y.af,.list 5 y.av] 88 false)
def Qoz (y:NF.Y):cH D:=⟨[],[],[(58,⟨Nat,[20],λk=>[(1,.ptr 0 0),(21,Qvo k)],[],λ_=>[SU y],1,λk=>k<=(iC.af y).length,λk=>(iC.af y).length-k⟩),
 (122,⟨Nat,[30,31],λk=>[(1,.ptr 0 0),(32,Qvo k)],[],λ_=>[SU y],1,λk=>k<=(iC.av y).length,λk=>(iC.av y).length-k⟩)],[],1,
 [(62670,⟨Nat,λr=>⟨Nat,[4,30,31,32,46,47],λk=>[(1,.ptr 0 0),(48,Qvo k)],[],λ_=>[SU y],1,λk=>k<=(iC.af y).length/\r<(iC.av y).length,λk=>(iC.af y).length-k⟩,none⟩)]⟩
def SV (y:(List aW)×Int):Prop:=let c:=ag y.1;let q1:=([y.2]:List Int);let h:=λp:Prop=>aa [y.1] p;aG 0 c/\aG c c/\bJ c 1/\(∃z:sy,h (ag (oF c false)=ag z.s/\ag q1=ag z.l/\q1=z.l/\oF c false=z.s/\(Iv (qC y z))))/\(∀x:sy,let j:=ag x.l;let b:=cx .i64 j 1;let g:=dE x.l b;let a:=gt 0 x.l b.toNat;let m:=gt false x.s a.toNat;let k:=bM g [ay .i64 a 1];let e:=gt (aW.mk 0 0 0 []) y.1 a.toNat;let i:=ag (bM g [e.x]);let d:=bM g [e.x,e.y];(Iv (qC y x))->aj (aw 0 j) (aG 0 b/\aw b j/\aG 0 b/\aG b j/\aG 0 a/\aw a (ag x.s)/\aj m (∃z:sy,h (ag x.s=ag z.s/\b=ag z.l/\g=z.l/\x.s=z.s/\(Iv (qC y z/\z.f<x.f)))) (aG 0 a/\aw a (ag x.s)/\aG 0 a/\aw a c/\aj (aB e.op 2) (bJ (ag d) 8/\∃z:sy,h (ag x.s=ag z.s/\ag d=ag z.l/\d=z.l/\cS x.s a.toNat true=z.s/\(Iv (qC y z/\z.f<x.f)))) (aj (aB e.op 3) (bJ i 8/\∃z:sy,h (ag x.s=ag z.s/\i=ag z.l/\bM g [e.x]=z.l/\cS x.s a.toNat true=z.s/\(Iv (qC y z/\z.f<x.f)))) (aj (aB e.op 7) (∃z:sy,h (ag x.s=ag z.s/\b=ag z.l/\g=z.l/\cS x.s a.toNat true=z.s/\(Iv (qC y z/\z.f<x.f)))) (bJ (ag k) 8/\∃z:sy,h (ag x.s=ag z.s/\ag k=ag z.l/\k=z.l/\cS x.s a.toNat true=z.s/\(Iv (qC y z/\z.f<x.f)))))))) (x.s=lJ y.1 y.2/\True))
abbrev RAL {T0 T1 T2 T3 T4 T5:Type} (a:T0) (b:T1) (c:T2) (d:T3) (e:T4) (f:T5) (p:Prop):Prop:=aa [a] (aa [b] (aa [c] (aa [d] (aa [e] (aa [f] p)))))
def SX (y:iC):Prop:=let b:=y.af.length;let q1:=ag y.av;let e:=y.av.length;let f:=ag y.af;let h:=λp:Prop=>RA3 y p;aj (aw 400 f) (False) (aj (aw 8 q1) (False) ((∃z:Nat,RAG f (0=(z:Int)/\h ((Iv (z<=b)))))/\(∀x:Nat,let r:=!(HD y (x:Int));(Iv (x<=b))->aj (aw (x:Int) f) (Iv (YQ (y,(x:Int)))/\RA3 y (RAG (x:Int) (aj r (False) (∃z:Nat,aa [f] (ay .i64 (x:Int) 1=(z:Int)/\h ((Iv (z<=b/\(b-z)<(b-x))))))))) ((∃z:Nat,RAH y.av q1 (0=(z:Int)/\h ((Iv (z<=e)))))/\(∀d:Nat,let o:=aw (d:Int) q1;let k:=gt 0 y.av (d:Int).toNat;let l:=lJ y.af k;let q:=λp:Prop=>RAL (d:Int) y.av q1 (d:Int) l (ag l) p;(Iv (d<=e))->aj o (aG 0 (d:Int)=true/\o=true/\Iv True/\RAH k f (aj (!(ij k f)) (False) (Iv (ND (y.af,k))/\aa [y.af] (aa [k] (∃z:Nat,(∃c:Nat,q (0=(c:Int)/\h ((Iv (c<=b/\z<e)))))/\(∀a:Nat,let i:=aw (a:Int) (ag l);let m:=gt false l (a:Int).toNat;let j:=gt (aW.mk 0 0 0 []) y.af (a:Int).toNat;let n:=!(aB j.x (d:Int));let g:Prop:=(∃c:Nat,q (ay .i64 (a:Int) 1=(c:Int)/\h ((Iv ((c<=b/\z<e)/\(b-c)<(b-a))))));(Iv (a<=b/\z<e))->aj i (aG 0 (a:Int)=true/\i=true/\aj m (aG 0 (a:Int)=true/\aw (a:Int) f=true/\aj (aB j.op 7) (aG 0 (a:Int)=true/\aw (a:Int) f=true/\aj n (False) (g)) (g)) (g)) (∃c:Nat,aa [y.av] (aa [q1] (ay .i64 (d:Int) 1=(c:Int)/\h ((Iv (c<=e/\(e-c)<(e-d))))))))))))) (True))))))
theorem uJ:∀(s:List Bool) (i:Nat),i<s.length->s.getD i false=false->(s.set i true).count false+1=s.count false
 | [],_,h,_=>absurd h (Zbo _)
 | b::s,0,_,h=>by
  grind
 | b::s,i+1,h,h2=>by
  grind
theorem QoB (y:List aW×Int) (N:ND y):SV y:=by
 obtain⟨⟨c1,c2⟩,O,P⟩:=N;unfold SV;simp only[bL,bC,au,cS,br,aT];refine⟨ω,ω,ω,⟨⟨3*y.1.length+1,KR y.1.length,[y.2]⟩,by rfl,rfl,rfl,rfl,by unfold KR;simp,λi hi=>?_,?_,Zah _,rfl⟩,λx z=>⟨λh=>?_,λh=>?_⟩⟩
 ·grind
 ·unfold KR;simp
 ·obtain⟨f,s,l⟩:=x;obtain⟨e,e2,t,u,c⟩:=z;simp only at e e2 t u c h ⊢;obtain⟨m,J⟩:∃m,l.length=m+1:=⟨l.length-1,ω⟩;obtain⟨f,rfl⟩:∃g,f=g+1:=⟨f-1,ω⟩;have L:cx .i64 (l.length:Int) 1=(m:Int):=by
   grind
  have w:gt 0 l m=l[m]'ω:=by
   grind
  have hi:=e2 _ (Zas (l:=l) (n:=m) ω);have hk:∀i∈l.take m,0<=i/\i<(y.1.length:Int):=λi hi=>e2 i (Zcg hi)
  have d:(l.take m).length=m:=by grind
  rw[j4,Zaa ω,J,Zde] at c;rw[L,Zad,w];have p:dE l (m:Int)=l.take m:=rfl;rw[p];have E:l.getD m 0=l[m]'ω:=w;simp only[E] at c;generalize l[m]'ω=i at hi c ⊢;generalize l.take m=k at hk d c ⊢;obtain⟨n,rfl⟩:=Zau hi.1;have K:n<s.length:=ω;simp only[Zad] at c ⊢;have F:gt (aW.mk 0 0 0 []) y.1 n=y.1.getD n cX:=rfl;have gs:gt false s n=s.getD n false:=rfl;rw[F,gs];obtain⟨B,C,D⟩:=c2 n ω;have H:List.count false s<=s.length:=List.count_le_length;have G:ay .i64 (n:Int) 1=(n:Int)+1:=ba ω ω;rw[G];generalize y.1.getD n cX=x at B C D c ⊢;have snoc:∀(v:List Int),(∀i∈v,0<=i/\i<(y.1.length:Int))->∀i∈k++v,0<=i/\i<(y.1.length:Int):=λv M i hi=>(Zax.1 hi).elim (hk i) (M i)
  refine⟨ω,ω,ω,ω,ω,ω,λhs=>?_,λhs=>⟨ω,ω,ω,ω,?_⟩⟩
  ·rw[Zac hs] at c;exact⟨⟨f,s,k⟩,rfl,by rw[d],rfl,rfl,⟨e,hk,by grind,by show f<=_;omega,c⟩,Zbr _⟩
  ·have I:=uJ s n K hs;rw[Zaa (by rw[hs];decide)] at c;have qX:(s.set n true).length=s.length:=Zbb;have two:∀a b:Int,(k++[a,b]).length=m+2:=λa b=>by rw[Zab,d];rfl
   have one:∀a:Int,(k++[a]).length=m+1:=λa=>by rw[Zab,d];rfl
   refine⟨λo=>?_,λj=>⟨λo=>?_,λq=>⟨λo=>?_,λA=>?_⟩⟩⟩
   ·rw[Zac o] at c;obtain⟨r,a2,a3,a4⟩:=B o;refine⟨by rw[two];omega,⟨f,s.set n true,k++[x.x,x.y]⟩,by rw[qX],rfl,rfl,rfl,⟨qX.trans e,snoc _ λi hi=>?_,by grind,by show f<=_;omega,c⟩,Zbr _⟩;simp only[Zbf,Zds,Zdt] at hi;omega
   ·rw[Zaa j,Zac o] at c;obtain⟨r,a2⟩:=C o;refine⟨by rw[one];omega,⟨f,s.set n true,k++[x.x]⟩,by rw[qX],rfl,rfl,rfl,⟨qX.trans e,snoc _ λi hi=>?_,by grind,by show f<=_;omega,c⟩,Zbr _⟩;rw[ZaI.1 hi];exact⟨r,a2⟩
   ·rw[Zaa j,Zaa q,Zac o] at c;exact⟨⟨f,s.set n true,k⟩,by rw[qX],by rw[d],rfl,rfl,⟨qX.trans e,hk,by grind,by show f<=_;omega,c⟩,Zbr _⟩
   ·rw[Zaa j,Zaa q,Zaa A] at c;have:=D j q A;refine⟨by rw[one];omega,⟨f,s.set n true,k++[(n:Int)+1]⟩,by rw[qX],rfl,rfl,rfl,⟨qX.trans e,snoc _ λi hi=>?_,by grind,by show f<=_;omega,c⟩,Zbr _⟩;rw[ZaI.1 hi];omega
 ·obtain⟨f,s,l⟩:=x;obtain⟨e,e2,t,u,c⟩:=z;simp only at c h ⊢;rw[<-c];cases f with
  | zero=>rfl
  | succ f=>rw[j4,Zac ω]
def Qcb:Ok SS:=okZ [] f243 Qox trivial QoB
theorem mS (af:List aW):∀f s l,(j4 af f s l).length=s.length
 | 0,s,l=>rfl
 | f+1,s,l=>by
  rw[j4];simp only;split
  ·rfl
  ·split
   ·exact mS af f _ _
   ·split
    ·rw[mS];exact Zbb
    ·split
     ·rw[mS];exact Zbb
     ·split<;>(rw[mS];exact Zbb)
theorem mT (af:List aW) (a:Int):(lJ af a).length=af.length:=by
 grind [lJ,mS,KR]
theorem QoC (y:iC) (g:F5 y):SX y:=by
 obtain⟨p1,p2,p3,p4,p5,p6⟩:=g;unfold SX;simp only[bL,bC,au,Zad,dq,Zan,Zao];refine⟨λh=>ω,λh=>⟨λh=>ω,λh=>⟨⟨0,rfl,Zaj _⟩,λx e=>⟨λk=>?_,λk=>⟨⟨0,rfl,Zaj _⟩,λr j=>⟨λk=>?_,λk=>trivial⟩⟩⟩⟩⟩⟩
 ·have b:x<y.af.length:=ω;have hs:=p3 x b;exact⟨⟨ω,k,by grind,p4⟩,⟨λq=>Bool.noConfusion (hs.symm.trans q),λ_=>⟨x+1,ba ω ω,ω,ω⟩⟩⟩
 ·have a:r<y.av.length:=ω;obtain⟨d,a2,a3⟩:=p6 r a;have hw:ij (y.av.getD r 0) y.af.length:=by grind [ij]
  refine⟨ω,k,⟨λq=>Bool.noConfusion (hw.symm.trans q),λ_=>⟨⟨p5,d,a2⟩,r,⟨0,rfl,Zaj _,a⟩,λx e=>⟨λk2=>?_,λ_=>⟨r+1,ba ω ω,ω,ω⟩⟩⟩⟩⟩;have f:x<y.af.length:=by grind [mT]
  have i:∃c:Nat,ay .i64 (x:Int) 1=(c:Int)/\(c<=y.af.length/\r<y.av.length)/\y.af.length-c<y.af.length-x:=⟨x+1,ba ω ω,⟨ω,a⟩,ω⟩;simp_all
def Qip (a:Ok dB):Ok NF:=okZ [YR,SP,SS] f203 Qoz ⟨Qio a,Qca,Qcb⟩ QoC
def EwC (a b:dd) (p:Prop):Prop:=a.c0=b.c0/\a.c1=b.c1/\a.c2=b.c2/\a.c3=b.c3/\a.c4=b.c4/\a.c5=b.c5/\a.c6=b.c6/\a.c7=b.c7/\a.c8=b.c8/\a.c9=b.c9/\p
def SY (a:dd) (p:Prop):Prop:=aa [a.c0,a.c1,a.c2,a.c3,a.c4,a.c5,a.c6,a.c7,a.c8,a.c9] p
def RwH (a:aX) (p:Prop):Prop:=aa [a.c0,a.c1,a.c2,a.c3,a.c4,a.c5,a.c6,a.c7,a.c8,a.c9] p
def SZ:(∀a p,SY a p=p)/\∀a p,RwH a p=p:=⟨λ_ _=>by simp[SY],λ_ _=>by simp[RwH]⟩
structure HE where
 w:dd
 rd:List aX
 e:Bool
structure ToY where
 v:pq
 k:HE
 t:aX
variable {s:re} {i:Int}
def Qiq:aW:=⟨0,0,0,[]⟩
def QoE (t:aX) (i v:Int):aX:=⟨t.pc,if i=0 then v else t.c0,if i=1 then v else t.c1,if i=2 then v else t.c2,if i=3 then v else t.c3,if i=4 then v else t.c4,if i=5 then v else t.c5,if i=6 then v else t.c6,if i=7 then v else t.c7,if i=8 then v else t.c8,if i=9 then v else t.c9⟩
def Qir (w:dd) (t:aX):dd:=⟨true,t.c0,t.c1,t.c2,t.c3,t.c4,t.c5,t.c6,t.c7,t.c8,t.c9,w.aJ⟩
def YW (af:List aW) (aI:Int):Nat->re->HE->aX->Bool×re×HE
 | 0,s,k,_=>(false,s,k)
 | n+1,s,k,t=>
  if mQ s t.pc=false then(false,s,k) else
  let a:=nQ s t.pc true
  let x:=af.getD t.pc.toNat Qiq
  if x.op=7 then(true,a,{ k with w:=Qir k.w t })
  else if x.op=2 then
   let r:=YW af aI n a k { t with pc:=x.x }
   if r.1=true then r else YW af aI n r.2.1 r.2.2 { t with pc:=x.y }
  else if x.op=1 then(false,a,{ k with rd:=k.rd++[t] })
  else if x.op=3 then YW af aI n a k { t with pc:=x.x }
  else if x.op=4 then YW af aI n a k (QoE { t with pc:=t.pc+1 } x.x aI)
  else if x.op=5/\0<aI then(false,a,k)
  else if x.op=6/\k.e=false then(false,a,k)
  else YW af aI n a k { t with pc:=t.pc+1 }
def kZ (s:re):Nat:=(List.range s.pl.length).countP λi:Nat=>mQ s i
def Ph (s:re):Prop:=s.pl.length<=1000/\(∀v∈s.pl,(0:Int)<=v)/\s.us.length+kZ s=s.pl.length/\∀j,j<s.us.length->0<=(s.us.getD j it0).i/\(s.us.getD j it0).i<s.pl.length/\s.pl.getD (s.us.getD j it0).i.toNat 0=j
def Qis (c:List aW):Prop:=c.length<=1000/\∀x∈c,x.op=4->0<=x.x/\x.x<=9
theorem sA:mQ s i↔0<=i/\i<s.pl.length/\Hi s i=false:=by
 grind [mQ]
theorem sB:Hi s i↔0<=i/\i<s.pl.length/\s.pl.getD i.toNat 0<s.us.length/\(s.us.getD (s.pl.getD i.toNat 0).toNat it0).i=i:=by
 grind [Hi]
theorem S0 (h:∀v∈s.pl,(0:Int)<=v) (i:Nat):0<=s.pl.getD i 0:=by
 rw[Zag];cases e:s.pl[i]? with
 | none=>exact ZaQ 0
 | some v=>exact h v (ZaJ e)
theorem v8 (x:Bool) (h:mQ s i):nQ s i x=⟨s.pl.set i.toNat s.us.length,s.us++[⟨i,x⟩]⟩:=by grind [nQ]
theorem has_add (x:Bool) (a:∀v∈s.pl,(0:Int)<=v) (h:mQ s i) (j:Int):Hi (nQ s i x) j↔Hi s j\/j=i:=by
 obtain⟨h1,c,d⟩:=sA.1 h;rw[v8 x h,sB,sB];simp only[Zbb,Zab,Zae,Zak];have g:=S0 a j.toNat;by_cases e:j=i
 ·grind
 ·by_cases f:0<=j/\j<s.pl.length
  ·have b:(s.pl.set i.toNat (s.us.length:Int)).getD j.toNat 0=s.pl.getD j.toNat 0:=by
    grind
   grind
  ·omega
theorem v_ (x:Bool):(nQ s i x).pl.length=s.pl.length:=by grind [nQ]
theorem YX (x:Bool) (a:∀v∈s.pl,(0:Int)<=v) (h:mQ s i) (j:Int):mQ (nQ s i x) j=(mQ s j&&decide (j≠i)):=by
 grind [sA,has_add,nQ]
theorem AU (p:Nat->Bool) (a:Nat):∀n,(List.range n).countP (λx=>p x&&decide (x≠a))+(if a<n/\p a=true then 1 else 0)=(List.range n).countP p
 | 0=>by simp
 | n+1=>by
  have b:=AU p a n;grind [List.range_succ]
theorem ya (x:Bool) (b:∀v∈s.pl,(0:Int)<=v) (h:mQ s i):kZ (nQ s i x)+1=kZ s:=by
 obtain⟨h1,a,_⟩:=sA.1 h;unfold kZ;rw[v_,<-AU (λi:Nat=>mQ s i) i.toNat s.pl.length,Zac ⟨ω,by grind⟩];grind [YX]
theorem KS (x:Bool) (hs:Ph s) (h:mQ s i):Ph (nQ s i x):=by
 obtain⟨h1,f,n,g⟩:=hs;obtain⟨c1,c2,c3⟩:=sA.1 h;have o:=ya x f h;refine⟨by grind [v_],?_,?_,?_⟩
 ·grind [v8]
 ·grind [v8]
 ·rw[v8 x h];intro j k;simp only[Zab,Zae,Zak,Zbb] at k ⊢;by_cases e:j<s.us.length
  ·obtain⟨a,b,c⟩:=g j e;have d:(s.us++[(⟨i,x⟩:Item)]).getD j it0=s.us.getD j it0:=by grind
   rw[d];refine⟨a,b,?_⟩;have l:(s.us.getD j it0).i≠i:=λq=>by
    grind [sB,Int.toNat_natCast]
   rw[Zag,Zc2 ω,<-Zag];exact c
  ·have m:j=s.us.length:=ω;simp_all
structure YY (s:re) (k:HE) (r:Bool×re×HE):Prop where
 i:Ph r.2.1
 l:r.2.1.pl.length=s.pl.length
 rd:r.2.2.rd.length+kZ r.2.1<=k.rd.length+kZ s
 f:kZ r.2.1<=kZ s
 th:r.2.2.w.aJ=k.w.aJ
 e:r.2.2.e=k.e
variable {s:re}
def YY.trans {k:HE} {b:Bool} {a:re} {k1:HE} {r:Bool×re×HE} (h:YY s k (b,a,k1)) (g:YY a k1 r):YY s k r:=
 ⟨g.i,g.l.trans h.l,Zav g.rd h.rd,Zav g.f h.f,g.th.trans h.th,g.e.trans h.e⟩
theorem YZ {k:HE} {i:Int} (b x:Bool) (hs:Ph s) (h:mQ s i):YY s k (b,nQ s i x,k):=by
 have a:=ya x hs.2.1 h;exact⟨KS x hs h,v_ x,by grind,by grind,rfl,rfl⟩
theorem yb (af:List aW) (aI:Int):∀(n:Nat) (s:re) (k:HE) (t:aX),Ph s->YY s k (YW af aI n s k t)
 | 0,s,k,t,hs=>⟨hs,rfl,Zah _,Zah _,rfl,rfl⟩
 | n+1,s,k,t,hs=>by
  unfold YW;by_cases h:mQ s t.pc=false
  ·rw[Zac h];exact⟨hs,rfl,Zah _,Zah _,rfl,rfl⟩
  ·rw[Zaa h];have c:mQ s t.pc:=by grind
   have a:=YZ (k:=k) false true hs c;have d:=ya true hs.2.1 c;simp only;have go:∀b,YY s k (YW af aI n (nQ s t.pc true) k b):=λb=>a.trans (yb af aI n _ k b a.i)
   split
   ·exact⟨a.i,a.l,a.rd,a.f,rfl,rfl⟩
   split
   ·split
    ·exact go _
    ·exact(go { t with pc:=_ }).trans (yb af aI n _ _ _ (go _).i)
   split
   ·exact⟨a.i,a.l,by grind,a.f,rfl,rfl⟩
   grind
theorem Y0 {i:Int} {x:Bool} (h:mQ s i=false):nQ s i x=s:=by grind [nQ]
def ls0:dd:=⟨false,0,0,0,0,0,0,0,0,0,0,[]⟩
def KT (af:List aW) (aI:Int):List aX->re->HE->re×HE
 | [],s,k=>(s,k)
 | t::l,s,k=>let r:=YW af aI (kZ s+1) s k t;if r.1=true then r.2 else KT af aI l r.2.1 r.2.2
structure ExY where
 v:pq
 i:Int
 e:Bool
def exL (y:ExY):dd:=y.v.L.getD y.i.toNat ls0
def exK (y:ExY):HE:=⟨{ exL y with aJ:=[] },[],y.e⟩
def exS (y:ExY):re:=⟨y.v.s.pl,Pg⟩
def EA (y:ExY):re×HE:=KT y.v.p.af y.v.aI (exL y).aJ (exS y) (exK y)
def vmP (v:pq):Prop:=v.s.pl.length=v.p.af.length/\(∀x∈v.s.pl,(0:Int)<=x)/\Qis v.p.af
theorem KU {l:List Int} (h:∀v∈l,(0:Int)<=v) (hl:l.length<=1000):Ph ⟨l,Pg⟩/\kZ ⟨l,Pg⟩=l.length:=by
 have a:kZ ⟨l,Pg⟩=l.length:=by
  unfold kZ;rw[List.countP_eq_length.2,List.length_range];intro i hi;rw[List.mem_range] at hi;refine sA.2 ⟨ω,ω,?_⟩;cases e:Hi ⟨l,Pg⟩ i with
  | false=>rfl
  | true=>
   have c:=(sB.1 e).2.2.1;have d:=S0 (s:=⟨l,Pg⟩) h (i:Int).toNat;have f:((Pg.length:Nat):Int)=0:=rfl;grind
 exact⟨⟨hl,h,by rw[a];exact Za6 _,λj b=>absurd b (Zbo _)⟩,a⟩
def EB (v:pq):Nat->re×List dd
 | 0=>(v.s,[])
 | k+1=>((EA ⟨⟨v.p,v.aI,v.L,(EB v k).1⟩,k,true⟩).1,(EB v k).2++[(EA ⟨⟨v.p,v.aI,v.L,(EB v k).1⟩,k,true⟩).2.w])
def enP (y:pq):Prop:=vmP y/\y.L.length<=1000/\∀l∈y.L,l.aJ.length<=1000000
theorem yc (af:List aW) (aI:Int):∀(l:List aX) (s:re) (k:HE),Ph s->YY s k (false,KT af aI l s k)
 | [],s,k,hs=>⟨hs,rfl,Zah _,Zah _,rfl,rfl⟩
 | t::l,s,k,hs=>by
  have a:=yb af aI (kZ s+1) s k t hs;rw[KT];split
  ·exact⟨a.i,a.l,a.rd,a.f,a.th,a.e⟩
  ·exact YY.trans (b:=false) ⟨a.i,a.l,a.rd,a.f,a.th,a.e⟩ (yc af aI l _ _ a.i)
def S1 {y:ExY} (h:vmP y.v):(EA y).1.pl.length=y.v.p.af.length/\(∀x∈(EA y).1.pl,(0:Int)<=x)/\(EA y).2.rd.length<=1000/\(EA y).2.w.aJ=[]:=by
 obtain⟨h1,c,d⟩:=h;have g:y.v.p.af.length<=1000:=d.1;obtain⟨b,e⟩:=KU (l:=y.v.s.pl) c ω;have a:=yc y.v.p.af y.v.aI (exL y).aJ (exS y) (exK y) b;refine⟨a.l.trans h1,a.i.2.1,?_,a.th⟩;have f:(EA y).2.rd.length+kZ (EA y).1<=0+kZ ⟨y.v.s.pl,Pg⟩:=a.rd;omega
theorem KV {y:pq} (h:vmP y):∀k,vmP ⟨y.p,y.aI,y.L,(EB y k).1⟩/\(EB y k).2.length=k
 | 0=>⟨h,rfl⟩
 | k+1=>by
  have a:=KV h k;have e:=S1 (y:=⟨⟨y.p,y.aI,y.L,(EB y k).1⟩,k,true⟩) a.1;exact⟨⟨e.1,e.2.1,h.2.2⟩,by grind [EB]⟩
structure StY where
 v:pq
 i:Int
 r:Int
def XH (y:StY):ExY:=⟨y.v,y.i,false⟩
def nxT (t:aX):aX:={ t with pc:=t.pc+1 }
def QoH (af:List aW) (r:Int) (t:aX):Bool:=bk (af.getD t.pc.toNat Qiq).bm r
def HF (af:List aW) (r:Int):List aX->re->List aX->re×List aX
 | [],s,o=>(s,o)
 | t::l,s,o=>if QoH af r t=true then HF af r l (nQ s (t.pc+1) true) (if mQ s (t.pc+1)=true then o++[nxT t] else o) else HF af r l s o
def stL (y:StY):re×List aX:=HF y.v.p.af y.r (EA (XH y)).2.rd ⟨(EA (XH y)).1.pl,Pg⟩ []
def stA (y:StY):Int:=y.v.p.av.getD y.i.toNat 0
def stR (y:StY):re×List aX:=if (EA (XH y)).2.w.done=true then stL y else(nQ (stL y).1 (stA y) true,if mQ (stL y).1 (stA y)=true then(stL y).2++[⟨stA y,-1,-1,-1,-1,-1,-1,-1,-1,-1,-1⟩] else(stL y).2)
def stW (y:StY):dd:={ (EA (XH y)).2.w with aJ:=(stR y).2 }
theorem AW {s:re} (i:Int) (x:Bool) (hs:Ph s):Ph (nQ s i x)/\(nQ s i x).pl.length=s.pl.length:=by
 grind [v_,Y0,KS]
theorem tG (af:List aW) (r:Int):∀(l:List aX) (s:re) (o:List aX),Ph s->Ph (HF af r l s o).1/\(HF af r l s o).1.pl.length=s.pl.length/\(HF af r l s o).2.length<=o.length+l.length
 | [],s,o,hs=>⟨hs,rfl,Zah _⟩
 | t::l,s,o,hs=>by
  rw[HF];split
  ·obtain⟨a,a2⟩:=AW (t.pc+1) true hs;obtain⟨b1,b,c⟩:=tG af r l (nQ s (t.pc+1) true) (if mQ s (t.pc+1)=true then o++[nxT t] else o) a;grind
  ·obtain⟨b1,b,c⟩:=tG af r l s o hs;grind
def rj (v:pq) (r:Int):Nat->pq
 | 0=>v
 | k+1=>⟨v.p,v.aI,(rj v r k).L.set k (stW ⟨rj v r k,k,r⟩),(stR ⟨rj v r k,k,r⟩).1⟩
structure RnY where
 v:pq
 r:Int
 n:Int
def rnN (n:Int):Int:=cM (imax n 0) 4
def rnF (y:RnY):pq:={ rj y.v y.r y.v.L.length with aI:=y.v.aI+rnN y.n }
theorem QeL {y:StY} (h:vmP y.v):(stR y).1.pl.length=y.v.p.af.length/\(∀x∈(stR y).1.pl,(0:Int)<=x)/\(stR y).2.length<=1001:=by
 obtain⟨a,e2,f,g⟩:=S1 (y:=XH y) h;have d:y.v.p.af.length<=1000:=h.2.2.1;replace a:(EA (XH y)).1.pl.length=y.v.p.af.length:=a;obtain⟨b,e⟩:=KU (l:=(EA (XH y)).1.pl) e2 ω;obtain⟨g1,g2,g3⟩:=tG y.v.p.af y.r (EA (XH y)).2.rd ⟨(EA (XH y)).1.pl,Pg⟩ [] b;replace g2:(stL y).1.pl.length=y.v.p.af.length:=Eq.trans g2 a;replace g1:Ph (stL y).1:=g1;replace g3:(stL y).2.length<=0+(EA (XH y)).2.rd.length:=g3;obtain⟨c,a2⟩:=AW (stA y) true g1;unfold stR;split
 ·exact⟨g2,g1.2.1,ω⟩
 ·refine⟨a2.trans g2,c.2.1,?_⟩;grind
theorem Ct {v:pq} (r:Int) (h:enP v):∀k,enP (rj v r k)/\(rj v r k).p=v.p/\(rj v r k).aI=v.aI/\(rj v r k).L.length=v.L.length
 | 0=>⟨h,rfl,rfl,rfl⟩
 | k+1=>by
  obtain⟨⟨i1,i2,i3⟩,a,b,c⟩:=Ct r h k;have e:=QeL (y:=⟨rj v r k,k,r⟩) i1;have hl:((rj v r k).L.set k (stW ⟨rj v r k,k,r⟩)).length=v.L.length:=by grind
  refine⟨⟨⟨e.1.trans (by grind [rj]),e.2.1,h.1.2.2⟩,by show(List.set _ _ _).length<=1000;rw[hl];exact h.2.1,λl hl=>?_⟩,rfl,rfl,hl⟩;rcases Zb1 hl with q | q
  ·grind
  ·rw[q];have:=e.2.2;show(stR ⟨rj v r k,k,r⟩).2.length<=1000000
   omega
def lsP (l:List dd):Prop:=l.length<=1000/\∀x∈l,x.aJ.length<=1000000
structure S2 where
 a:Int
 b:Int
 c:Int
 d:Int
 n:Int
def dcO (y:S2):List (Nat×AO D.E):=[(0,.cells [.int .u8 y.a,.int .u8 y.b,.int .u8 y.c,.int .u8 y.d,.int .i64 y.n] 265 false)]
def QoJ (v:AV D.E) (s:St D.E):C S2:=match v with
 | .ptr b _=>az (cR (s.h.get b)) λo=>match o with
  | .cells cs _ _=>match cs with
   | [a,b,c,d,n]=>aP (cT a) λ_ a=>aP (cT b) λ_ b=>aP (cT c) λ_ c=>aP (cT d) λ_ d=>aP (cT n) λ_ n=>.ret ⟨a,b,c,d,n⟩
   | _=>.fail
  | _=>.fail
 | _=>.fail
def HG (y:S2):By:=[b8 y.a,b8 y.b,b8 y.c,b8 y.d].take y.n.toNat
def bdG (k:Nat):List Gt:=List.replicate k (65533,1)
def dc0:S2:=⟨0,0,0,0,0⟩
def unC:bh D:=⟨163,Unit,λ_ _=>.ret (),λ_=>True,λ_=>[],λ_=>[],λ_=>.ptr 0 0,λ_=>dcO dc0,0,1⟩
def dcP (y:S2):Prop:=0<=y.n/\y.n<=4
def lX (l:By) (i:Nat):Int:=if i<l.length then((l.getD i 0).toNat:Int) else 0
def uoF (l:By):S2:=⟨lX l 0,lX l 1,lX l 2,lX l 3,if l.length<=4 then l.length else 4⟩
def Qiw (y:Unit):Prop:=aa ([0,0,0,0,0]:List Int) (True)
abbrev RAC (p:Prop):Prop:=aa ([0]:List Int) p
def QeN (y:List UInt8):Prop:=let a:Prop:=(Iv True/\RAC (cy (aw 0 (dD y)) (sat y 0) 0=lX y 0/\cy (aw 1 (dD y)) (sat y 1) 0=lX y 1/\cy (aw 2 (dD y)) (sat y 2) 0=lX y 2/\cy (aw 3 (dD y)) (sat y 3) 0=lX y 3/\cM 4 (dD y)=ite (y.length<=4) (y.length:Int) 4/\True));Iv True/\RAG y (aj (!(ji y)) (aj (aw 0 (ag y)) (False) (a)) (a))
theorem QoL:Ok unC:=okZ (V:=Qiw) [] f163 (λ_=>dY ()) trivial λy a=>by
 grind [Qiw]
theorem Y1 (y:By) (i:Nat):cy (aw i (dD y)) (sat y i) 0=lX y i:=by
 grind [cy,lX,sat]
theorem uoH (y:By) (a:y=[]\/ji y):QeN y:=by
 unfold QeN;simp only[bL,bC,au,Zan,Zao];grind [cM,Y1]
end
end sx
namespace sx
open Go Go.RowKit
variable {M:Pm D} {H:Hp D} {w w':World}
variable {a:AV D.E} {g:Nat} {A:Array Value} {l:List (AV D.E)}
def jj (a:ee M H w) (h:Below w.heap.size w w') (lo:Nat):cU H M w H M w' lo lo:=.world a h.size (λc b=>h.block c b) h.os h.tape h.output lo
theorem yd (h:LR M [a] A.toList):∃v,A=#[v]/\VR M a v:=by
 obtain⟨l⟩:=A;obtain⟨v,r,e,h1,b⟩:=h.aM;have:=b.jA;grind
theorem EC {b:AV D.E} (h:LR M [a,b] A.toList):∃v u,A=#[v,u]/\VR M a v/\VR M b u:=by
 obtain⟨l⟩:=A;obtain⟨v,r,e,h1,c⟩:=h.aM;obtain⟨u,g,e2,f,d⟩:=c.aM;have:=d.jA;grind
theorem Y2 (r:ee M H w) (n:Below w.heap.size w w') {o c:Nat} {xs:List (D.E c)} (B:w.heap.size<=g)
  (s:∀i v,(aV c xs)[i]?=some v->∃m,w'.cell? ⟨g,o+i,none⟩=some m/\VR M v m) (lo:Nat):cU H M w H ⟨M.pl,df M.sg g o (aV c xs)⟩ w' lo lo:=by
 have k:=cU.world r n.size (λc s=>n.block c s) n.os n.tape n.output lo;have hle:sx.Le M ⟨M.pl,df M.sg g o (aV c xs)⟩:=⟨λ_ _ h=>h,kG λq _ _=>by
  cases hs:M.sg g q with
  | none=>rfl
  | some v=>have:=r.slt hs;omega⟩
 have u:∀b f a,H b=some f->M.pl b=some a->a.real->a.bY≠g:=λb f a h d l=>by
  obtain⟨m2,h1,x⟩:=r.obj b f h;rw[d] at h1;cases h1;have:=x.lt l;omega
 refine⟨⟨λb f h=>let ⟨a,d,z⟩:=k.fJ.obj b f h;⟨a,d,z.mono hle λ_=>rfl⟩,k.fJ.inj,λb q v h=>?_,λb f a h hw d l j y=>?_,λb c xs e a h d l=>(k.fJ.J6 b c xs e a h d l).mono hle.2,k.fJ.mh⟩,
  λ_ _=>rfl,hle.2,λb q h=>?_,k.size,k.aO,k.born,k.MN,k.os,k.tape,k.output,k.le⟩
 ·replace h:df M.sg g o (aV c xs) b q=some v:=h;unfold df at h;split at h
  ·rename_i t
   obtain⟨rfl,h1,x⟩:=t;obtain⟨m,p,e2⟩:=s _ v h;rw[show o+(q-o)=q by omega] at p;exact⟨(ef fL (ZaJ h)).2,m,p,e2.mono hle⟩
  ·obtain⟨A,m,p,e2⟩:=k.fJ.gR b q v h;exact⟨A,m,p,e2.mono hle⟩
 ·show df M.sg g o (aV c xs) a.bY j=none
  unfold df;rw[Zaa λq=>u b f a h d l q.1];exact k.fJ.sep b f a h hw d l j y
 ·grind [mw]
theorem KW {α:Type} {c:Nat} {f:D.E c->α} {a_:α->List Value}:∀{xs:List (D.E c)},(∀x∈xs,LR M (D.a_ c x) (a_ (f x)))->LR M (aV c xs) ((xs.map f).flatMap a_)
 | [],_=>.nil
 | x::xs,h=>(h x (by simp)).app (KW (xs:=xs) λy a=>h y (by grind))
def LR.cell {v:List Value} (h:LR M l v) (e:l[g]?=some a):∃b,v[g]?=some b/\VR M a b:=h.get e
def fE {M:Pm D} {k:IntKind} {n:Int} {v:Value} (h:VR M (.int k n) v):v=.int k n:=by cases h;rfl
theorem pw (f:ee M H w) {b:Nat} {cs:List (AV D.E)} {e:TypeId} {ro:Bool} (g:H b=some (.cells cs e ro)) {c:MI} (j:M.pl b=some c):
  c.real/\c.sh=0/\c.qK=cs.length/\∃C a,w.heap[c.bY]?=some (.cells C e a)/\LR M cs C.toList/\(ro=false->a.1=a.2\/cs.length<=a.1/\c.je=1):=by
 obtain⟨l,d,⟨k,hs,ht⟩,C,a,h1,n,o,p,q⟩:=f.obj b _ g;rw[j] at d;cases d;refine⟨k,hs,ht,C,a,h1,⟨(by grind),λi v r m e2=>?_⟩,λh=>by grind⟩;grind
end sx
set_option maxRecDepth 100000
set_option maxHeartbeats 4000000
namespace sx
noncomputable section
open Go Go.RowKit cls syn
def sbF (n:Nat) (y:S2):By:=[b8 y.a,b8 y.b,b8 y.c,b8 y.d].take n
def S3 (n:Nat):bh D:=⟨167,S2,λa s=>match a with
 | [p]=>match p with
  | .sub b _ m=>bE (Nat.beq m n) (QoJ (.ptr b 0) s) .fail
  | _=>.fail
 | _=>.fail,λ_=>True,λ_=>[.sub 0 0 n],dcO,λy=>.tuple [.int .i32 (cB (sbF n y)).1,Qvo (cB (sbF n y)).2,.bool (ji (sbF n y))],dcO,1,1⟩
def Y3 {n:Nat} (h:n<=4) (y:S2):(sbF n y).length=n:=by unfold sbF;rw[Zar];exact Zbj h
theorem QeO {M e:Pm D} {k d:IntKind} {a b:Int} {c:Bool} {v:Value} (h:VR M (.tuple [.int k a,.int d b,.bool c]) v):VR e (.tuple [.int k a,.int d b,.bool c]) v:=by
 cases h with
 | tuple hl n=>
  rename_i l
  obtain⟨l⟩:=l;obtain⟨r,o,rfl,h1,f⟩:=LR.aM (M:=M) ⟨hl,n⟩;obtain⟨s,p,rfl,g,i⟩:=f.aM;obtain⟨v3,q,rfl,j,m⟩:=i.aM;obtain rfl:=m.jA;cases h1 with
  | int i1=>cases g with
   | int i2=>cases j;exact VR.DC (.cons (.int i1) (.cons (.int i2) (.cons (.bool c) .nil)))
theorem KX (n:Nat) (h1:1<=n) (P:n<=4):Ok (S3 n):=by
 refine⟨⟨f167,_,by kernel_rfl,cN (by kernel_rfl)⟩,λy hy M A w Q p _ R S=>?_⟩;obtain⟨v,rfl,U⟩:=yd Q;have t:∃k cap,M.pl 0=some k/\v=.slice (some ⟨k.bY,k.sh,none⟩) n cap/\n<=cap:=by
  cases U with
  | sub h N B G=>exact⟨_,_,h,rfl,B⟩
  | oW=>omega
 obtain⟨k,cap,G,rfl,L⟩:=t;obtain⟨N,hs,ht,C,fz,hC,hl,T⟩:=pw p (b:=0) rfl G;have H:∀j,M.sg k.bY j=none:=λj=>p.sep 0 _ k (show cA (dcO y) 0=_ from rfl) rfl G N j trivial
 let l:By:=sbF n y
 let x:Pm D:=⟨λ_=>none,df M.sg k.bY 0 (aV (D:=D) 0 l)⟩
 have s:zq M x:=kG λo _ _=>H o
 have r:aV (D:=D) 0 l=([AV.int .u8 y.a,.int .u8 y.b,.int .u8 y.c,.int .u8 y.d].take n:List (AV D.E)):=by
  obtain⟨v0,r0,Y,i0,hl⟩:=hl.aM;obtain⟨v1,r1,Z,i1,hl⟩:=hl.aM;obtain⟨v2,r2,e2,i2,hl⟩:=hl.aM;obtain⟨v3,r3,e3,i3,hl⟩:=hl.aM;cases i0 with
  | int i0=>cases i1 with
   | int i1=>cases i2 with
    | int i2=>cases i3 with
     | int i3=>
      have f:aV (D:=D) 0 [b8 y.a,b8 y.b,b8 y.c,b8 y.d]=[AV.int .u8 y.a,.int .u8 y.b,.int .u8 y.c,.int .u8 y.d]:=by
       show[AV.int .u8 ((b8 y.a).toNat:Int),.int .u8 ((b8 y.b).toNat:Int),.int .u8 ((b8 y.c).toNat:Int),.int .u8 ((b8 y.d).toNat:Int)]=_
       rw[mI i0,mI i1,mI i2,mI i3];rfl
      have g:=nF (D:=D) fL 0 [b8 y.a,b8 y.b,b8 y.c,b8 y.d] n;rw[f] at g;exact g.trans (by show List.take (n*1) _=_;rw[Zb8])
 have z:ee x (λ_=>none) w:=⟨λb o h=>(nomatch h),λb X o o' m m' h=>(nomatch h),λb o v h=>by
  replace h:df M.sg k.bY 0 (aV (D:=D) 0 l) b o=some v:=h;unfold df at h;split at h
  ·rename_i F
   obtain⟨rfl,_,_⟩:=F;have q:=(ef fL (ZaJ h)).2;rw[r,Za7] at h;split at h
   ·have O:[AV.int (E:=D.E) .u8 y.a,.int .u8 y.b,.int .u8 y.c,.int .u8 y.d,.int .i64 y.n][o]?=some v:=by
     grind
    obtain⟨u,K,a2⟩:=hl.get O;exact⟨q,u,by grind [World.cell?],a2.pure q s⟩
   ·cases h
  ·obtain⟨q,u,K,a2⟩:=p.gR b o v h;exact⟨q,u,K,a2.pure q s⟩,λb o m h=>(nomatch h),λb c xs e m h=>(nomatch h),⟨p.mh.1,λb o m h=>(nomatch h)⟩⟩
 have hlen:l.length=n:=Y3 P y;have J:VR x (.list 0 l) (.slice (some ⟨k.bY,k.sh,none⟩) n cap):=by
  rw[hs,<-hlen];exact VR.list (c:=0) (cz.add fL) (by show l.length<=_;omega) (by show l.length<=_;omega)
 refine Cq.2 l trivial x _ w (.cons J .nil) z (λ_ _=>rfl) R λW u V I i=>S M u V (QeO I) ?_
 exact cU.world p i.size (λc B=>i.aO c B λ⟨b,o,m,h,_⟩=>nomatch h) i.os i.tape i.output 1
def HH (v:pq) (l:List Gt):pq:=l.foldl (λv g=>rnF ⟨v,g.1,g.2⟩) v
structure RsY where
 v:pq
 l:List Gt
def Y4 (v:pq) (N:Int):Prop:=enP v/\v.p.av.length=v.L.length/\0<=v.aI/\v.aI<=N
theorem QeP {v:pq} {N:Int} (r n:Int) (h:Y4 v N):Y4 (rnF ⟨v,r,n⟩) (N+4):=by
 obtain⟨h1,a,d,e⟩:=h;obtain⟨i1,b,g,c⟩:=Ct r h1 v.L.length;have f:0<=rnN n/\rnN n<=4:=by grind [rnN,cM,imax]
 exact⟨i1,by show(rj v r v.L.length).p.av.length=(rj v r v.L.length).L.length;rw[b,c];exact a,by show 0<=v.aI+rnN n;omega,by show v.aI+rnN n<=N+4;omega⟩
theorem AX {v:pq} {l:List Gt} {x:Nat} (h:x<l.length):HH v (l.take (x+1))=rnF ⟨HH v (l.take x),l[x].1,l[x].2⟩:=by
 grind [HH,List.take_append_getElem]
theorem Cu {v:pq} {N:Int} {l:List Gt} (h:Y4 v N):∀x,x<=l.length->Y4 (HH v (l.take x)) (N+4*x)
 | 0,_=>by grind [HH]
 | x+1,a=>by
  rw[AX (show x<l.length by omega)];have:=QeP (l[x]'ω).1 (l[x]'ω).2 (Cu (l:=l) h x ω);grind
def NG:bh D:=bO 294 Int (λa _=>in1 a) (λ_=>True) (λy=>[.int .i32 y]) λy=>.bool (iw y)
def ED:bh D:=bO 268 Int (λa _=>in1 a) (λ_=>True) (λy=>[.int .i32 y]) λy=>.list 6 (ew y)
def S4:bh D:=bO 267 Unit (λ_ _=>.ret ()) (λ_=>True) (λ_=>[]) λ_=>.list 6 Yk
def QoP (args:List (AV D.E)):C (By×By):=match args with
 | [a,b]=>az (fY a) λx=>az (fY b) λz=>.ret (x,z)
 | _=>.fail
def NH:bh D:=bO 270 (By×By) (λa _=>QoP a) (λ_=>True) (λy=>[.str y.1,.str y.2]) λy=>.bool (iy y.1 y.2)
def Y5 (args:List (AV D.E)):C By:=match args with
 | [a]=>az (fY a) λx=>.ret x
 | _=>.fail
def k_ (y:By):Prop:=∀c∈y,48<=c.toNat/\c.toNat<=57
def HJ:bh D:=bO 271 By (λa _=>Y5 a) k_ (λy=>[.str y]) λy=>.tuple [Qvo (syn.eF y).1,.bool (syn.eF y).2]
def QoR (y:HJ.Y):cH D:=⟨[],[],[(122,⟨Nat,[0,10],λx=>[(4,Qvo (hI (y.take x))),(11,Qvo x)],[],λ_=>[],0,λx=>x<=y.length,λx=>y.length-x⟩)],[],1,[]⟩
structure b7 where
 i:Int
 ak:Int
 ab:Int
 an:Int
 wh:Int
def nn (s:b7):Ps:=⟨s.i.toNat,s.ak.toNat,s.ab.toNat,s.an,s.wh⟩
def zz (s:Ps):b7:=⟨s.i,s.ak,s.ab,s.an,s.wh⟩
def bP (G:List Gt):List Int:=(List.range G.length).map (aI G)
def psO (G:List Gt) (s:b7):List (Nat×AO D.E):=[(0,.cells [.list 13 G,.list 5 (bP G),.int .i64 s.i,.int .i64 s.ak,.int .i64 s.ab,.int .i64 s.an,.int .i64 s.wh] 190 false)]
abbrev PS:=List Gt×b7
def QeQ (v:AV D.E) (s:St D.E):C PS:=match v with
 | .ptr b _=>az (cR (s.h.get b)) λo=>match o with
  | .cells cs _ _=>match cs with
   | [l,_,i,o,g,e,w]=>az (aL D s 13 l) λl=>aP (cT i) λ_ i=>aP (cT o) λ_ o=>aP (cT g) λ_ g=>aP (cT e) λ_ e=>aP (cT w) λ_ w=>.ret ((l:List Gt),⟨i,o,g,e,w⟩)
   | _=>.fail
  | _=>.fail
 | _=>.fail
def NI (args:List (AV D.E)) (s:St D.E):C PS:=match args with
 | [p]=>QeQ p s
 | _=>.fail
def S5 (args:List (AV D.E)) (s:St D.E):C (PS×Int):=match args with
 | [p,a]=>az (QeQ p s) λy=>aP (cT a) λ_ n=>.ret (y,n)
 | _=>.fail
def QeR (args:List (AV D.E)) (s:St D.E):C (PS×Int×Int):=match args with
 | [p,a,b]=>az (QeQ p s) λy=>aP (cT a) λ_ m=>aP (cT b) λ_ n=>.ret (y,m,n)
 | _=>.fail
def bx (y:PS):Prop:=y.1.length<=4096/\(0<=y.2.i/\y.2.i<=y.1.length)/\(0<=y.2.ak/\y.2.ak<=20)/\(0<=y.2.ab/\y.2.ab<=4)/\Fx y.1
abbrev ye (f:FuncId) (Y:Type) (a:Y->PS) (oM:List (AV D.E)->St D.E->C Y) (pre:Y->Prop) (args:Y->List (AV D.E)) (out:Y->b7) (res:Y->AV D.E):bh D:=⟨f,Y,oM,λy=>bx (a y)/\pre y,λy=>.ptr 0 0::args y,λy=>psO (a y).1 (a y).2,res,λy=>psO (a y).1 (out y),1,1⟩
variable {G:List Gt} {i:Nat} {l:List (List Nd)}
def XI:bh D:=ye 212 (PS×Int) (·.1) S5 (λ_=>True) (λy=>[.int .i32 y.2]) (λy=>y.1.2) λy=>.bool (bb y.1.1 (nn y.1.2) y.2)
def tH:bh D:=ye 174 (PS×Int) (·.1) S5 (λ_=>True) (λy=>[.int .i32 y.2]) (λy=>zz (bp y.1.1 (nn y.1.2) y.2)) λy=>.bool (bb y.1.1 (nn y.1.2) y.2)
def zC:bh D:=ye 263 (PS×Int) (·.1) S5 (λy=>0<=y.2/\y.2<y.1.1.length) (λy=>[Qvo y.2]) (λy=>y.1.2) λy=>.bool (fi y.1.1 y.2.toNat)
def qD:bh D:=ye 115 (PS×Int×Int) (·.1) QeR (λy=>0<=y.2.1/\y.2.1<y.1.1.length) (λy=>[Qvo y.2.1,Qvo y.2.2]) (λy=>zz ((nn y.1.2).ax y.1.1 y.2.1.toNat y.2.2)) λ_=>.dF
def QoW (args:List (AV D.E)) (s:St D.E):C (Int×List (List Nd)):=match args with
 | [a,b]=>aP (cT a) λ_ n=>az (aL D s 9 b) λl=>.ret (n,(l:List (List Nd)))
 | _=>.fail
def zD:bh D:=bO 175 (Int×List (List Nd)) QoW (λy=>total y.2<=100000/\y.2.length<=100000) (λy=>[Qvo y.1,.list 9 y.2]) λy=>.list 7 (bW y.1 y.2)
def QoX (y:zD.Y):cH D:=⟨[],[],[(122,⟨Nat,[24,25],λx=>[(5,.grow 7 ({ nd y.1 with ae:=y.2.length }::(y.2.take x).flatten) 0),(26,Qvo x)],[],λ_=>[(0,.tok 7 206)],1,λx=>x<=y.2.length,λx=>y.2.length-x⟩)],[],1,[]⟩
def S6 (y:Int):Prop:=let a:Prop:=(aj (aG 123 y) (aG y 126=iw y/\True) (false=iw y/\True));let q1:Prop:=(aj (aG 91 y) (aj (aG y 96) (true=iw y/\True) (a)) (a));let b:Prop:=(aj (aG 58 y) (aj (aG y 64) (true=iw y/\True) (q1)) (q1));aj (aG 33 y) (aj (aG y 47) (true=iw y/\True) (b)) (b)
def S7 (y:Int):Prop:=let a:=([(y,y)]:List (Int×Int));Iv (a.length<=100000000)/\aa [a] (aU a=ew y/\True)
def S8 (y:Unit):Prop:=Iv (1<=1000000)/\aa ([[(10,10)]]:List (List (Int×Int))) (lH [(10,10)]=Yk/\True)
def S9 (y:(List UInt8)×(List UInt8)):Prop:=let a:=iy y.1 y.2;let q1:=aw (dD y.1) (dD y.2);let b:=aB (dD y.1) (dD y.2);aj q1 (true=a/\True) (aj b (slt y.1 y.2=a/\True) (false=a/\True))
def KY (y:List UInt8):Prop:=aj (aw 2 (dD y)) (0=(eF y).1/\false=(eF y).2/\True) ((∃z:Nat,RAH y (dD y) (0=hI (List.take z y)/\0=(z:Int)/\(Iv (z<=y.length))))/\(∀x:Nat,let a:=y.length;let q1:=hI (List.take x y);let b:=aw (x:Int) (dD y);(Iv (x<=a))->aj b (aG 0 (x:Int)/\b/\∃z:Nat,RAH y (dD y) (ay .i64 (gG .i64 10 q1) (jP .i64 (cx .u8 (sat y (x:Int)) 48))=hI (List.take z y)/\ay .i64 (x:Int) 1=(z:Int)/\(Iv (z<=a/\(a-z)<(a-x))))) (q1=(eF y).1/\aG q1 30=(eF y).2/\True)))
def QeS (y:((List (Int×Int))×b7)×Int):Prop:=let a:=aw y.1.2.i (ag y.1.1);let q1:=bb y.1.1 (nn y.1.2) y.2;let b:=(gt (0,0) y.1.1 y.1.2.i.toNat).1;let c:Prop:=(aa [y.1.1] (aa [bP y.1.1] (aa [y.1.2.i,y.1.2.ak,y.1.2.ab,y.1.2.an,y.1.2.wh] (True))));aj a (aG 0 y.1.2.i/\a/\aa [y.1.2.i] (aa [y.1.1,y.1.1] (aa [y.1.2.i,b] (aB b y.2=q1/\c)))) (aa [y.1.2.i] (aa [y.1.1] (false=q1/\c)))
def S' (y:((List (Int×Int))×b7)×Int):Prop:=let a:=bb y.1.1 (nn y.1.2) y.2;let q1:=bp y.1.1 (nn y.1.2) y.2;let b:=((q1.i:Nat):Int);let c:Prop:=(y.1.2.ak=((q1.ak:Nat):Int)/\y.1.2.ab=((q1.ab:Nat):Int)/\y.1.2.an=q1.an/\y.1.2.wh=q1.wh/\True);Iv (bx (y.1.1,y.1.2)/\True)/\aa [y.2] (aa [y.1.1] (aa [bP y.1.1] (aa [y.1.2.i,y.1.2.ak,y.1.2.ab,y.1.2.an,y.1.2.wh] (aj a (true=a/\aa [y.1.1] (aa [bP y.1.1] (ay .i64 y.1.2.i 1=b/\c))) (false=a/\aa [y.1.1] (aa [bP y.1.1] (y.1.2.i=b/\c)))))))
def S_ (y:((List (Int×Int))×b7)×Int):Prop:=let a:=fi y.1.1 y.2.toNat;let q1:=gt (0,0) y.1.1 y.2.toNat;let b:Prop:=(aa [y.1.1] (aa [bP y.1.1] (aa [y.1.2.i,y.1.2.ak,y.1.2.ab,y.1.2.an,y.1.2.wh] (True))));aG 0 y.2/\aw y.2 (ag y.1.1)/\aj (aB q1.1 65533) (aG 0 y.2/\aw y.2 (ag y.1.1)/\aB q1.2 1=a/\b) (false=a/\b)
def Ta (y:((List (Int×Int))×b7)×Int×Int):Prop:=let a:=bP y.1.1;let q1:=Ps.ax y.1.1 (nn y.1.2) y.2.1.toNat y.2.2;aj (aB y.1.2.an 0) (aG 0 y.2.1/\aw y.2.1 (ag a)/\aa [y.1.1] (aa [a] (y.1.2.i=((q1.i:Nat):Int)/\y.1.2.ak=((q1.ak:Nat):Int)/\y.1.2.ab=((q1.ab:Nat):Int)/\y.2.2=q1.an/\gt 0 a y.2.1.toNat=q1.wh/\True))) (aa [y.1.1] (aa [a] (y.1.2.i=((q1.i:Nat):Int)/\y.1.2.ak=((q1.ak:Nat):Int)/\y.1.2.ab=((q1.ab:Nat):Int)/\y.1.2.an=q1.an/\y.1.2.wh=q1.wh/\True)))
def KZ (y:Int×(List (List Nd))):Prop:=let a:=ag y.2;let q1:=y.2.length;let b:=bW y.1 y.2;let c:=Nd.mk y.1 [] 0 0 false 0 (q1:Int);aj (aB a 0) (([Nd.mk 1 [] 0 0 false 0 0]:List Nd)=b/\True) (aj (aB a 1) (Tt 1 (aw 0 a/\gt [] y.2 0=b/\True)) ((∃z:Nat,aa [y.2] (aa [a] (([Nd.mk y.1 [] 0 0 false 0 a]:List Nd)=(c::(List.flatten (List.take z y.2)))/\0=(z:Int)/\(Iv (z<=q1)))))/\(∀x:Nat,let d:=(c::(List.flatten (List.take x y.2)));let e:=bM d (gt [] y.2 (x:Int).toNat);(Iv (x<=q1))->aj (aw (x:Int) a) (aG 0 (x:Int)/\aw (x:Int) a/\bJ (ag e) 72/\∃z:Nat,aa [y.2] (aa [a] (e=(c::(List.flatten (List.take z y.2)))/\ay .i64 (x:Int) 1=(z:Int)/\(Iv (z<=q1/\(q1-z)<(q1-x)))))) (d=b/\True))))
theorem Qix (y:Int) (a:NG.pre y):S6 y:=by
 grind [S6,iw]
def Qiy:Ok NG:=okZ [] f294 (λ_=>dY ()) trivial Qix
def QoZ (y:Int) (a:ED.pre y):S7 y:=by
 unfold S7;simp only[dw,Zai];exact⟨⟨by simp⟩,rfl⟩
def Qce (a:Ok dB):Ok ED:=okZ [dB] f268 (λ_=>dY ()) a QoZ
def Qo0 (y:Unit) (a:S4.pre y):S8 y:=by
 unfold S8;simp only[dw,Zai];exact⟨⟨ω⟩,rfl⟩
theorem Qo1 (y:By×By) (a:NH.pre y):S9 y:=by
 unfold S9;simp only[bL,gz,ib];unfold iy;refine⟨λh=>?_,λh=>⟨λb=>?_,λb=>?_⟩⟩
 ·grind
 ·rw[ZaN (show ¬y.1.length<y.2.length by omega),show(y.1.length==y.2.length)=true by grind,bytesLess_eq];rfl
 ·grind
def Qiz:Ok NH:=okZ [] f270 (λ_=>dY ()) trivial Qo1
theorem Tb {s:Ps} (r:Int) (h:s.i<G.length):bb G s r=decide ((G.getD s.i (0,0)).1=r):=by
 grind [bb]
theorem Cv {s:Ps} (r:Int) (h:G.length<=s.i):bb G s r=false:=by
 grind [bb]
theorem z_n {s:b7} (h:0<=s.i) (a:0<=s.ak) (b:0<=s.ab):zz (nn s)=s:=by
 obtain⟨i,o,g,e,w⟩:=s;simp only at h a b;unfold zz nn;grind
def isH (y:PS×Int) (b:XI.pre y):QeS y:=by
 obtain⟨⟨h1,a,_⟩,_⟩:=b;have a:0<=y.1.2.i/\y.1.2.i<=y.1.1.length:=a;unfold QeS;simp only[gz,dA,hU,fm,au,gt];refine⟨λh=>⟨a.1,h,?_⟩,λh=>?_⟩
 ·rw[Tb (s:=nn y.1.2) y.2 (show y.1.2.i.toNat<y.1.1.length by omega)];rfl
 ·rw[Cv (s:=nn y.1.2) y.2 (show y.1.1.length<=y.1.2.i.toNat by omega)]
def isOk:Ok XI:=okZ [] f212 (λ_=>dY ()) trivial isH
theorem Qo2 (y:PS×Int) (d:tH.pre y):S' y:=by
 obtain⟨h0,_⟩:=d;obtain⟨h1,a,b,c⟩:=id h0;have h1:y.1.1.length<=4096:=h1;have a:0<=y.1.2.i/\y.1.2.i<=y.1.1.length:=a;have hz:=z_n (s:=y.1.2) a.1 b.1 c.1.1;unfold S';simp only[gz];refine⟨⟨h0⟩,λh=>?_,λh=>?_⟩
 ·unfold bp;rw[Zac h,h];refine⟨rfl,?_,ZaR b7.ak hz.symm,ZaR b7.ab hz.symm,rfl,rfl⟩;rw[ba ω ω];show _=((y.1.2.i.toNat+1:Nat):Int)
  omega
 ·unfold bp;rw[Zaa (by grind),h];exact⟨rfl,ZaR b7.i hz.symm,ZaR b7.ak hz.symm,ZaR b7.ab hz.symm,rfl,rfl⟩
def AY:Ok tH:=okZ [XI] f174 (λ_=>dY ()) isOk Qo2
theorem K0 (h:i<G.length):fi G i=(decide ((G.getD i (0,0)).1=65533)&&decide ((G.getD i (0,0)).2=1)):=by
 grind [fi]
theorem Qo3 (y:PS×Int) (b:zC.pre y):S_ y:=by
 obtain⟨_,h1,a⟩:=b;have h1:0<=y.2:=h1;have a:y.2<y.1.1.length:=a;unfold S_;simp only[bL,gz,au,gt];grind [K0]
def Tc:Ok zC:=okZ [] f263 (λ_=>dY ()) trivial Qo3
theorem yf (G:List Gt):(bP G).length=G.length:=by grind [bP]
theorem K5 (h:i<G.length) (d:Int):(bP G).getD i d=aI G i:=by
 grind [bP]
def Qo4 (y:PS×Int×Int) (d:qD.pre y):Ta y:=by
 obtain⟨⟨_,g2,g3,g4⟩,h1,a⟩:=d;have h1:0<=y.2.1:=h1;have a:y.2.1<y.1.1.length:=a;have hz:=z_n (s:=y.1.2) g2.1 g3.1 g4.1.1;have b:=ZaR b7.i hz.symm;have e2:=ZaR b7.ak hz.symm;have c:=ZaR b7.ab hz.symm;unfold Ta;simp only[bL,gz,au,gt,yf];rw[K5 (show y.2.1.toNat<y.1.1.length by omega)];unfold Ps.ax;refine⟨λh=>?_,λh=>?_⟩
 ·rw[Zac (show(nn y.1.2).an=0 from h)];exact⟨h1,a,b,e2,c,rfl,rfl⟩
 ·rw[Zaa (show ¬(nn y.1.2).an=0 from h)];exact⟨b,e2,c,rfl,rfl⟩
def uK:Ok qD:=okZ [] f115 (λ_=>dY ()) trivial Qo4
theorem Zd (i:Nat):(l.take i).flatten.length<=total l:=by
 grind [total,List.take_append_drop]
theorem AZ (h:i<l.length):(l.take i).flatten++l.getD i []=(l.take (i+1)).flatten:=by
 grind [List.take_succ]
theorem QiA (y:Int×List (List Nd)) (f:zD.pre y):KZ y:=by
 obtain⟨op,l⟩:=y;obtain⟨h1,g⟩:total l<=100000/\l.length<=100000:=f;unfold KZ;simp only[bL,gz,au,gt,aT,br,Zad];refine⟨λh=>?_,λh=>⟨λc=>⟨ω,?_⟩,λc=>⟨⟨0,rfl,rfl,⟨ω⟩⟩,λx e=>⟨λd=>⟨ω,d,?_,x+1,?_,ba ω ω,⟨⟨ω,ω⟩⟩⟩,λd=>?_⟩⟩⟩⟩
 ·obtain rfl:l=[]:=Zap ω;rfl
 ·obtain⟨a,rfl⟩:=List.length_eq_one_iff.1 (show l.length=1 by omega);rfl
 ·grind [Zd,AZ]
 ·grind [AZ]
 ·have e:=e.out;rw[ZaA ω]
  match l,h,c with
  | [],h,_=>exact absurd rfl h
  | [a],_,c=>exact absurd rfl c
  | a::b::t,_,_=>rfl
def Qcf:Ok zD:=okZ [] f175 QoX trivial QiA
theorem Td {y:By} (h:i<y.length):hI (y.take (i+1))=10*hI (y.take i)+(((y.getD i 0).toNat:Int) -48):=by
 grind [hI,List.take_succ]
theorem QeU {y:By} (h:k_ y) (hl:y.length<=2):0<=hI y/\hI y<=99:=by
 match y,h,hl with
 | [],_,_=>simp[hI]
 | [a],h,_=>
  have:=h a (by simp);simp[hI];omega
 | [a,b],h,_=>
  have:=h a (by simp);have:=h b (by simp);simp[hI];omega
theorem QiB (y:By) (a:HJ.pre y):KY y:=by
 have a:k_ y:=a;unfold KY;simp only[gz,dA,hU,fm,ib];unfold syn.eF;refine⟨λh=>?_,λh=>⟨⟨0,by rfl,rfl,⟨ω⟩⟩,λx g=>⟨λd=>⟨ω,d,x+1,?_,ba ω ω,⟨⟨ω,ω⟩⟩⟩,λd=>?_⟩⟩⟩
 ·grind
 ·have b:x<y.length:=ω;rw[Td b];have e:=a (y.getD x 0) (by grind);have f:=QeU (y:=y.take x) (λc e=>a c (Zcg e)) (by grind);have es:sat y (x:Int)=((y.getD x 0).toNat:Int):=by rfl
  grind [cx,dG,cL,De,s9,jP]
 ·grind
def QiC:Ok HJ:=okZ [] f271 QoR trivial QiB
def Qcg (k:PS->Bool) (args:List (AV D.E)) (s:St D.E):C (PS×Bool):=az (NI args s) λp=>.split (k p) (.ret (p,true)) (.ret (p,false))
def EE (y:PS):Bool:=decide ((eh y.1 (nn y.2)).2.1=[])
def QiD (z:Bool) (l:List Rg) (b:Bool):AV D.E:=match z with
 | true=>.tuple [.dF,.bool false]
 | false=>.tuple [.list 6 l,.bool b]
def HN (y:PS×Bool):Prop:=y.1.2.i<y.1.1.length/\y.2=EE y.1
def zE:bh D:=ye 266 (PS×Bool) (·.1) (Qcg EE) HN (λ_=>[]) (λy=>zz (eh y.1.1 (nn y.1.2)).1) λy=>QiD y.2 (eh y.1.1 (nn y.1.2)).2.1 (eh y.1.1 (nn y.1.2)).2.2
def yg (y:PS):Bool:=decide ((b5 y.1 (nn y.2)).2.1=[])
def NJ (y:PS×Bool):Prop:=y.1.2.i<y.1.1.length/\y.2=yg y.1
def HO:bh D:=ye 305 (PS×Bool) (·.1) (Qcg yg) NJ (λ_=>[]) (λy=>zz (b5 y.1.1 (nn y.1.2)).1) λy=>QiD y.2 (b5 y.1.1 (nn y.1.2)).2.1 (b5 y.1.1 (nn y.1.2)).2.2
def HQ (y:(List (Int×Int))×b7):Prop:=let j:=(y.1.length:Int);let q1:=ay .i64 y.2.i 1;let e:=(eh y.1 (nn y.2)).1;let n:=ay .i64 q1 1;let o:=fi y.1 q1.toNat;let k:=((e.ab:Nat):Int);let l:=((e.ak:Nat):Int);let m:=((e.i:Nat):Int);let q:=aG (ag y.1) q1;let h:=b7.mk q1 y.2.ak y.2.ab y.2.an y.2.wh;let a:=(gt (0,0) y.1 q1.toNat).1;let g:=b7.mk n y.2.ak y.2.ab y.2.an y.2.wh;let b:=Ps.ax y.1 (nn h) y.2.i.toNat 4;let c:=Ps.ax y.1 (nn h) q1.toNat 4;let d:=Ps.ax y.1 (nn g) y.2.i.toNat 4;let f:=λp:Prop=>aa [y.1] (aa [bP y.1] p);aa [q1] (aa [y.1] (aj q (Iv (bx (y.1,h)/\0<=y.2.i/\y.2.i<j)/\aa ([y.2.i,4]:List Int) (aa [y.1] (aa [bP y.1] (aa [q1,y.2.ak,y.2.ab,y.2.an,y.2.wh] (false=false/\f (((b.i:Nat):Int)=m/\((b.ak:Nat):Int)=l/\((b.ab:Nat):Int)=k/\b.an=e.an/\b.wh=e.wh/\True)))))) (Iv (bx (y.1,h)/\0<=q1/\q1<j)/\aa [q1] (aa [y.1] (aa [bP y.1] (aa [q1,y.2.ak,y.2.ab,y.2.an,y.2.wh] (aj o (Iv (bx (y.1,h)/\0<=q1/\q1<j)/\aa ([q1,4]:List Int) (aa [y.1] (aa [bP y.1] (aa [q1,y.2.ak,y.2.ab,y.2.an,y.2.wh] (false=false/\f (((c.i:Nat):Int)=m/\((c.ak:Nat):Int)=l/\((c.ab:Nat):Int)=k/\c.an=e.an/\c.wh=e.wh/\True)))))) (aG 0 q1/\aw q1 (ag y.1)/\aa [y.1] (aa [q1,a] (aj (aB a 110) (Iv True/\aa ([10]:List Int) (False)) (aj (aB a 116) (Iv True/\aa ([9]:List Int) (False)) (aj (aB a 114) (Iv True/\aa ([13]:List Int) (False)) (aj (aB a 100) (Iv (1<=100000000)/\aa ([[(48,57)]]:List (List (Int×Int))) (False)) (aj (aB a 115) (Iv (3<=100000000)/\aa ([[(9,10),(13,13),(32,32)]]:List (List (Int×Int))) (False)) (aj (aB a 119) (Iv (4<=100000000)/\aa ([[(48,57),(65,90),(95,95),(97,122)]]:List (List (Int×Int))) (False)) (Iv True/\aa [a] (aj (!(iw a)) (Iv (bx (y.1,g)/\0<=y.2.i/\y.2.i<j)/\aa ([y.2.i,4]:List Int) (aa [y.1] (aa [bP y.1] (aa [n,y.2.ak,y.2.ab,y.2.an,y.2.wh] (false=false/\f (((d.i:Nat):Int)=m/\((d.ak:Nat):Int)=l/\((d.ab:Nat):Int)=k/\d.an=e.an/\d.wh=e.wh/\True)))))) (Iv True/\aa [a] (False)))))))))))))))))))
def HR (y:(List (Int×Int))×b7):Prop:=let l:=(y.1.length:Int);let q1:=eh y.1 (nn y.2);let b:=ay .i64 y.2.i 1;let q:=ay .i64 b 1;let r:=fi y.1 b.toNat;let m:=((q1.1.ab:Nat):Int);let h:=q1.2.1;let n:=((q1.1.i:Nat):Int);let o:=((q1.1.ak:Nat):Int);let s:=aG (ag y.1) b;let d:=b7.mk b y.2.ak y.2.ab y.2.an y.2.wh;let a:=(gt (0,0) y.1 b.toNat).1;let k:=b7.mk q y.2.ak y.2.ab y.2.an y.2.wh;let e:=Ps.ax y.1 (nn d) y.2.i.toNat 4;let f:=Ps.ax y.1 (nn k) y.2.i.toNat 4;let g:=Ps.ax y.1 (nn d) b.toNat 4;let j:=λp:Prop=>aa [y.1] (aa [bP y.1] p);let c:Prop:=(j (q=n/\y.2.ak=o/\y.2.ab=m/\y.2.an=q1.1.an/\y.2.wh=q1.1.wh/\True));aa [b] (aa [y.1] (aj s (Iv (bx (y.1,d)/\0<=y.2.i/\y.2.i<l)/\aa ([y.2.i,4]:List Int) (aa [y.1] (aa [bP y.1] (aa [b,y.2.ak,y.2.ab,y.2.an,y.2.wh] ([]=h/\false=q1.2.2/\j (((e.i:Nat):Int)=n/\((e.ak:Nat):Int)=o/\((e.ab:Nat):Int)=m/\e.an=q1.1.an/\e.wh=q1.1.wh/\True)))))) (Iv (bx (y.1,d)/\0<=b/\b<l)/\aa [b] (aa [y.1] (aa [bP y.1] (aa [b,y.2.ak,y.2.ab,y.2.an,y.2.wh] (aj r (Iv (bx (y.1,d)/\0<=b/\b<l)/\aa ([b,4]:List Int) (aa [y.1] (aa [bP y.1] (aa [b,y.2.ak,y.2.ab,y.2.an,y.2.wh] ([]=h/\false=q1.2.2/\j (((g.i:Nat):Int)=n/\((g.ak:Nat):Int)=o/\((g.ab:Nat):Int)=m/\g.an=q1.1.an/\g.wh=q1.1.wh/\True)))))) (aG 0 b/\aw b (ag y.1)/\aa [y.1] (aa [b,a] (aj (aB a 110) (Iv True/\aa ([10]:List Int) (ew 10=h/\true=q1.2.2/\c)) (aj (aB a 116) (Iv True/\aa ([9]:List Int) (ew 9=h/\true=q1.2.2/\c)) (aj (aB a 114) (Iv True/\aa ([13]:List Int) (ew 13=h/\true=q1.2.2/\c)) (aj (aB a 100) (Iv (1<=100000000)/\aa ([[(48,57)]]:List (List (Int×Int))) (aU [(48,57)]=h/\false=q1.2.2/\c)) (aj (aB a 115) (Iv (3<=100000000)/\aa ([[(9,10),(13,13),(32,32)]]:List (List (Int×Int))) (aU [(9,10),(13,13),(32,32)]=h/\false=q1.2.2/\c)) (aj (aB a 119) (Iv (4<=100000000)/\aa ([[(48,57),(65,90),(95,95),(97,122)]]:List (List (Int×Int))) (aU [(48,57),(65,90),(95,95),(97,122)]=h/\false=q1.2.2/\c)) (Iv True/\aa [a] (aj (!(iw a)) (Iv (bx (y.1,k)/\0<=y.2.i/\y.2.i<l)/\aa ([y.2.i,4]:List Int) (aa [y.1] (aa [bP y.1] (aa [q,y.2.ak,y.2.ab,y.2.an,y.2.wh] ([]=h/\false=q1.2.2/\j (((f.i:Nat):Int)=n/\((f.ak:Nat):Int)=o/\((f.ab:Nat):Int)=m/\f.an=q1.1.an/\f.wh=q1.1.wh/\True)))))) (Iv True/\aa [a] (ew a=h/\true=q1.2.2/\c)))))))))))))))))))
def HS (y:(List (Int×Int))×b7):Prop:=let g:=y.2.i.toNat;let q1:=(y.1,y.2);let e:=(eh y.1 (nn y.2)).1;let a:=(b5 y.1 (nn y.2)).1;let h:=((a.ak:Nat):Int);let j:=((a.ab:Nat):Int);let k:=((a.i:Nat):Int);let f:=Ps.ax y.1 (nn y.2) g 4;let c:=(gt (0,0) y.1 g).1;let l:=λp:Prop=>aa [y.1] (aa [bP y.1] (aa [y.2.i,y.2.ak,y.2.ab,y.2.an,y.2.wh] p));let d:=λp:Prop=>aa [y.1] (aa [bP y.1] p);let b:Prop:=(false=false/\d (y.2.i=k/\y.2.ak=h/\y.2.ab=j/\y.2.an=a.an/\y.2.wh=a.wh/\True));Iv (bx q1/\0<=y.2.i/\y.2.i<(y.1.length:Int))/\aa [y.2.i] (aa [y.1] (aa [bP y.1] (aa [y.2.i,y.2.ak,y.2.ab,y.2.an,y.2.wh] (aj (fi y.1 g) (Iv (bx q1/\0<=y.2.i/\y.2.i<(y.1.length:Int))/\aa ([y.2.i,4]:List Int) (aa [y.1] (aa [bP y.1] (aa [y.2.i,y.2.ak,y.2.ab,y.2.an,y.2.wh] (false=false/\d (((f.i:Nat):Int)=k/\((f.ak:Nat):Int)=h/\((f.ab:Nat):Int)=j/\f.an=a.an/\f.wh=a.wh/\True)))))) (aG 0 y.2.i/\aw y.2.i (ag y.1)/\aa [y.1] (aa [y.2.i,c] (aj (aB c 92) (aj (EE q1) (Iv (bx q1/\HN (q1,true))/\l (false=false/\d (((e.i:Nat):Int)=k/\((e.ak:Nat):Int)=h/\((e.ab:Nat):Int)=j/\e.an=a.an/\e.wh=a.wh/\True))) (Iv (bx q1/\HN (q1,false))/\l (False))) (aj (aB c 91) (aj (aB c 91) (b) (False)) (aj (aB c 93) (aj (aB c 93) (b) (False)) (aj (aB c 45) (b) (False)))))))))))
def HU (y:(List (Int×Int))×b7):Prop:=let l:=y.2.i.toNat;let q1:=eh y.1 (nn y.2);let a:=b5 y.1 (nn y.2);let f:=(y.1,y.2);let m:=((a.1.ab:Nat):Int);let n:=((a.1.ak:Nat):Int);let k:=((a.1.i:Nat):Int);let j:=Ps.ax y.1 (nn y.2) l 4;let b:=(gt (0,0) y.1 l).1;let o:=λp:Prop=>aa [y.1] (aa [bP y.1] (aa [y.2.i,y.2.ak,y.2.ab,y.2.an,y.2.wh] p));let c:=λp:Prop=>aa [y.1] (aa [bP y.1] p);let g:Prop:=(y.2.ak=n/\y.2.ab=m/\y.2.an=a.1.an/\y.2.wh=a.1.wh/\True);let d:Prop:=([]=a.2.1/\false=a.2.2/\c (y.2.i=k/\g));let h:Prop:=(c (((q1.1.i:Nat):Int)=k/\((q1.1.ak:Nat):Int)=n/\((q1.1.ab:Nat):Int)=m/\q1.1.an=a.1.an/\q1.1.wh=a.1.wh/\True));let e:Prop:=(([(b,b)]:List (Int×Int))=a.2.1/\true=a.2.2/\c (ay .i64 y.2.i 1=k/\g));Iv (bx f/\0<=y.2.i/\y.2.i<(y.1.length:Int))/\aa [y.2.i] (aa [y.1] (aa [bP y.1] (aa [y.2.i,y.2.ak,y.2.ab,y.2.an,y.2.wh] (aj (fi y.1 l) (Iv (bx f/\0<=y.2.i/\y.2.i<(y.1.length:Int))/\aa ([y.2.i,4]:List Int) (aa [y.1] (aa [bP y.1] (aa [y.2.i,y.2.ak,y.2.ab,y.2.an,y.2.wh] ([]=a.2.1/\false=a.2.2/\c (((j.i:Nat):Int)=k/\((j.ak:Nat):Int)=n/\((j.ab:Nat):Int)=m/\j.an=a.1.an/\j.wh=a.1.wh/\True)))))) (aG 0 y.2.i/\aw y.2.i (ag y.1)/\aa [y.1] (aa [y.2.i,b] (aj (aB b 92) (aj (EE f) (Iv (bx f/\HN (f,true))/\o ([]=a.2.1/\false=a.2.2/\h)) (Iv (bx f/\HN (f,false))/\o (q1.2.1=a.2.1/\q1.2.2=a.2.2/\h))) (aj (aB b 91) (aj (aB b 91) (d) (e)) (aj (aB b 93) (aj (aB b 93) (d) (e)) (aj (aB b 45) (d) (e)))))))))))
end
end sx
end Go.Proofs.YtiiiphndmbabcaaGreat
