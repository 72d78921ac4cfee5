/- StreamRises: a part of the proof. -/
import Derived.Test.YtadfknojfbmjgaaGreatC16
import Derived.Test.YtadfknojfbmjgaaGreatC10
set_option linter.all false
namespace Go.Proofs.YtadfknojfbmjgaaGreat
set_option maxRecDepth 100000
set_option maxHeartbeats 4000000
namespace sx
noncomputable section
open Go Go.RowKit cls syn
def QbL (y:(List (Int×Int))×bO):Prop:=let c:=(qX y).1;let o:=((c.i:Nat):Int);let q:=((c.opens:Nat):Int);let r:=((c.ae:Nat):Int);let n:=(y.1,y.2);let g:=eI y.1 (gX n) ((y.1.length+2) -y.2.i.toNat) (nn y.2) [];let m:=λp:Prop=>aa [y.1] (aa [bC y.1] p);Iv ((bj n/\True)/\(lvl n+3)<(lvl y+4))/\aa [y.1] (aa [bC y.1] (aa [y.2.i,y.2.opens,y.2.ae,y.2.err,y.2.wh] ((∃z:bO×(List (List Nd)),([bK 3 g.2]:List (List Nd))=z.2/\m (((g.1.i:Nat):Int)=z.1.i/\((g.1.opens:Nat):Int)=z.1.opens/\((g.1.ae:Nat):Int)=z.1.ae/\g.1.err=z.1.err/\g.1.wh=z.1.wh/\(Iv (Y5 y z))))/\(∀x:bO×(List (List Nd)),let b:=aY y.1 (nn x.1) 124;let s:=aQ y.1 (nn x.1) 124;let l:=((b.i:Nat):Int);let d:=((b.ae:Nat):Int);let e:=((b.opens:Nat):Int);let h:=bO.mk l e d b.err b.wh;let f:=(y.1,h);let a:=eI y.1 (gX f) ((y.1.length+2) -l.toNat) (nn h) [];let j:=aZ x.2 [bK 3 a.2];let k:=λp:Prop=>aa ([4]:List Int) (aa [x.2] p);(Iv (Y5 y x))->ag (az x.1.err 0) (Iv (bj (y.1,x.1)/\True)/\aa ([124]:List Int) (aa [y.1] (aa [bC y.1] (aa [x.1.i,x.1.opens,x.1.ae,x.1.err,x.1.wh] (ag s (Iv ((bj f/\True)/\(lvl f+3)<(lvl y+4))/\aa [y.1] (aa [bC y.1] (aa [l,e,d,b.err,b.wh] (fits (ab j) 24/\∃z:bO×(List (List Nd)),j=z.2/\m (((a.1.i:Nat):Int)=z.1.i/\((a.1.opens:Nat):Int)=z.1.opens/\((a.1.ae:Nat):Int)=z.1.ae/\a.1.err=z.1.err/\a.1.wh=z.1.wh/\(Iv (Y5 y z/\Ew y z<Ew y x))))))) (Iv (total x.2<=100000/\x.2.length<=100000)/\k (bK 4 x.2=(qX y).2/\m (l=o/\e=q/\d=r/\b.err=c.err/\b.wh=c.wh/\True)))))))) (Iv (total x.2<=100000/\x.2.length<=100000)/\k (bK 4 x.2=(qX y).2/\m (x.1.i=o/\x.1.opens=q/\x.1.ae=r/\x.1.err=c.err/\x.1.wh=c.wh/\True)))))))
def Y6:∀y,QbL y=QpK y:=λy=>by kernel_rfl
def Sp (y:(List (Int×Int))×bO):Prop:=let e:=eI y.1 (gX y) ((y.1.length+2) -y.2.i.toNat) (nn y.2) [];let k:=((e.1.opens:Nat):Int);let l:=((e.1.ae:Nat):Int);let m:=((e.1.i:Nat):Int);let n:=bK 3 e.2;let j:=λp:Prop=>aa [y.1] (aa [bC y.1] p);(∃z:bO×(List (List Nd)),[]=z.2/\j (y.2.i=z.1.i/\y.2.opens=z.1.opens/\y.2.ae=z.1.ae/\y.2.err=z.1.err/\y.2.wh=z.1.wh/\(Iv (Sn y z))))/\(∀x:bO×(List (List Nd)),let o:=!(ax 0 x.1.opens);let q:=ax x.1.i (ab y.1);let c:=(y.1,x.1);let r:=aQ y.1 (nn x.1) 41;let h:=!(aQ y.1 (nn x.1) 124);let a:=(za c).1;let f:=aZ x.2 [(za c).2];let d:=λp:Prop=>aa [x.1.err,x.1.i] (aa [y.1] p);let b:Prop:=(Iv (total x.2<=100000/\x.2.length<=100000)/\aa ([3]:List Int) (aa [x.2] (bK 3 x.2=n/\j (x.1.i=m/\x.1.opens=k/\x.1.ae=l/\x.1.err=e.1.err/\x.1.wh=e.1.wh/\True))));let g:Prop:=(Iv ((bj c/\Gb c)/\(lvl c+2)<(lvl y+3))/\aa [y.1] (aa [bC y.1] (aa [x.1.i,x.1.opens,x.1.ae,x.1.err,x.1.wh] (fits (ab f) 24/\∃z:bO×(List (List Nd)),f=z.2/\j (((a.i:Nat):Int)=z.1.i/\((a.opens:Nat):Int)=z.1.opens/\((a.ae:Nat):Int)=z.1.ae/\a.err=z.1.err/\a.wh=z.1.wh/\(Iv (Sn y z/\Ew y z<Ew y x)))))));(Iv (Sn y x))->ag (az x.1.err 0) (ag q (Iv (bj c/\True)/\aa ([124]:List Int) (aa [y.1] (aa [bC y.1] (aa [x.1.i,x.1.opens,x.1.ae,x.1.err,x.1.wh] (ag h (Iv (bj c/\True)/\aa ([41]:List Int) (aa [y.1] (aa [bC y.1] (aa [x.1.i,x.1.opens,x.1.ae,x.1.err,x.1.wh] (ag r (aa [x.1.err,x.1.i] (aa [y.1] (aa [x.1.opens] (ag o (g) (b))))) (d (g))))))) (d (b))))))) (d (b))) (aa [x.1.err] (b)))
def Y7:∀y,Sp y=QpL y:=λy=>by kernel_rfl
def Sq (y:(List (Int×Int))×bO):Prop:=let P:=(za y).2;let h:=(za y).1;let e:=(pe y).1;let N:=(pe y).2.2;let Q:=((h.opens:Nat):Int);let R:=((h.i:Nat):Int);let S:=((h.ae:Nat):Int);let O:=(pe y).2.1;let K:=((e.opens:Nat):Int);let L:=((e.ae:Nat):Int);let f:=((e.i:Nat):Int);let j:=(y.1,y.2);let b:=(dx j).1;let t:=(dx j).2;let u:=((b.ae:Nat):Int);let v:=((b.i:Nat):Int);let w:=((b.opens:Nat):Int);let A:=bO.mk f K L e.err e.wh;let k:=aY y.1 (nn A) 63;let B:=bO.mk v w u b.err b.wh;let M:=aZ [Nd.mk 5 [] O N (aQ y.1 (nn A) 63) 0 1] t;let T:=aQ y.1 (nn B) 42;let c:=aY y.1 (nn B) 42;let C:=((c.opens:Nat):Int);let D:=((c.ae:Nat):Int);let E:=((c.i:Nat):Int);let F:=bO.mk E C D c.err c.wh;let d:=aY y.1 (nn F) 43;let U:=aQ y.1 (nn F) 43;let G:=((d.ae:Nat):Int);let H:=((d.opens:Nat):Int);let I:=((d.i:Nat):Int);let J:=bO.mk I H G d.err d.wh;let a:=aY y.1 (nn J) 63;let V:=aQ y.1 (nn J) 63;let l:=((a.opens:Nat):Int);let m:=((a.ae:Nat):Int);let n:=((a.i:Nat):Int);let o:=bO.mk n l m a.err a.wh;let g:=f_ y.1 (nn o);let W:=aQ y.1 (nn o) 123;let q:=λp:Prop=>aa [y.1] (aa [bC y.1] p);let r:=λp:Prop=>aa ([0,1]:List Int) (aa [y.1] (aa [bC y.1] p));let s:=λp:Prop=>aa [t] (aa ([5]:List Int) p);Iv ((bj j/\Gb j)/\(lvl j+1)<(lvl y+2))/\aa [y.1] (aa [bC y.1] (aa [y.2.i,y.2.opens,y.2.ae,y.2.err,y.2.wh] (ag (!(az b.err 0)) ([]=P/\q (v=R/\w=Q/\u=S/\b.err=h.err/\b.wh=h.wh/\True)) ((Iv (bj (y.1,B)/\True)/\aa ([42]:List Int) (aa [y.1] (aa [bC y.1] (aa [v,w,u,b.err,b.wh] (ag T (∃z:Unit,s (0=O/\(-1)=N/\false=false/\r (E=f/\C=K/\D=L/\c.err=e.err/\c.wh=e.wh/\(Iv (uS y))))) (Iv (bj (y.1,F)/\True)/\aa ([43]:List Int) (aa [y.1] (aa [bC y.1] (aa [E,C,D,c.err,c.wh] (ag U (∃z:Unit,s (1=O/\(-1)=N/\false=false/\r (I=f/\H=K/\G=L/\d.err=e.err/\d.wh=e.wh/\(Iv (uS y))))) (Iv (bj (y.1,J)/\True)/\aa ([63]:List Int) (aa [y.1] (aa [bC y.1] (aa [I,H,G,d.err,d.wh] (ag V (∃z:Unit,s (0=O/\1=N/\false=false/\r (n=f/\l=K/\m=L/\a.err=e.err/\a.wh=e.wh/\(Iv (uS y))))) (Iv (bj (y.1,o)/\True)/\aa ([123]:List Int) (aa [y.1] (aa [bC y.1] (aa [n,l,m,a.err,a.wh] (ag W (Iv (bj (y.1,o)/\Gb (y.1,o))/\aa [y.1] (aa [bC y.1] (aa [n,l,m,a.err,a.wh] (∃z:Unit,s (g.2.1=O/\g.2.2=N/\false=false/\r (((g.1.i:Nat):Int)=f/\((g.1.opens:Nat):Int)=K/\((g.1.ae:Nat):Int)=L/\g.1.err=e.err/\g.1.wh=e.wh/\(Iv (uS y)))))))) (t=P/\q (n=R/\l=Q/\m=S/\a.err=h.err/\a.wh=h.wh/\True))))))))))))))))))))))/\(∀x:Unit,(Iv (uS y))->ag (!(az e.err 0)) ([]=P/\q (f=R/\K=Q/\L=S/\e.err=h.err/\e.wh=h.wh/\True)) (Iv (bj (y.1,A)/\True)/\aa ([63]:List Int) (aa [y.1] (aa [bC y.1] (aa [f,K,L,e.err,e.wh] (fits (ab M) 72/\M=P/\q (((k.i:Nat):Int)=R/\((k.opens:Nat):Int)=Q/\((k.ae:Nat):Int)=S/\k.err=h.err/\k.wh=h.wh/\True)))))))))))
def Y8:∀y,Sq y=QpM y:=λy=>by kernel_rfl
def Sr (y:(List (Int×Int))×bO):Prop:=let e:=(dx y).1;let h:=(dx y).2;let t:=y.2.i.toNat;let o:=((e.i:Nat):Int);let q:=((e.ae:Nat):Int);let r:=((e.opens:Nat):Int);let l:=dZ y.1 (nn y.2);let m:=r8 y.1 (nn y.2);let d:=(y.1,y.2);let s:=(l7 d).1;let f:=Ps.ak y.1 (nn y.2) t 4;let a:=(gt (0,0) y.1 t).1;let k:=λp:Prop=>aa [y.1] (aa [bC y.1] (aa [y.2.i,y.2.opens,y.2.ae,y.2.err,y.2.wh] p));let g:=λp:Prop=>aa [y.1] (aa [bC y.1] p);let j:Prop:=(g (an .i64 y.2.i 1=o/\y.2.opens=r/\y.2.ae=q/\y.2.err=e.err/\y.2.wh=e.wh/\True));let n:Prop:=(g (((l.1.i:Nat):Int)=o/\((l.1.opens:Nat):Int)=r/\((l.1.ae:Nat):Int)=q/\l.1.err=e.err/\l.1.wh=e.wh/\True));let c:Prop:=(Iv True/\aa [a] (([Nd.mk 2 (eh a) 0 0 false 0 0]:List Nd)=h/\j));let b:Prop:=(Iv (bj d/\0<=y.2.i/\y.2.i<(y.1.length:Int))/\aa ([y.2.i,4]:List Int) (aa [y.1] (aa [bC y.1] (aa [y.2.i,y.2.opens,y.2.ae,y.2.err,y.2.wh] ([]=h/\g (((f.i:Nat):Int)=o/\((f.opens:Nat):Int)=r/\((f.ae:Nat):Int)=q/\f.err=e.err/\f.wh=e.wh/\True))))));Iv (bj d/\0<=y.2.i/\y.2.i<(y.1.length:Int))/\aa [y.2.i] (aa [y.1] (aa [bC y.1] (aa [y.2.i,y.2.opens,y.2.ae,y.2.err,y.2.wh] (ag (eD y.1 t) (b) (aC 0 y.2.i/\ax y.2.i (ab y.1)/\ag (az a 40) (Iv ((bj d/\Gb d)/\lvl d<(lvl y+1))/\k ((l7 d).2=h/\g (((s.i:Nat):Int)=o/\((s.opens:Nat):Int)=r/\((s.ae:Nat):Int)=q/\s.err=e.err/\s.wh=e.wh/\True))) (ag (az a 91) (Iv (bj d/\Gb d)/\k (m.2=h/\g (((m.1.i:Nat):Int)=o/\((m.1.opens:Nat):Int)=r/\((m.1.ae:Nat):Int)=q/\m.1.err=e.err/\m.1.wh=e.wh/\True))) (ag (az a 92) (ag (B_ d) (Iv (bj d/\Ev (d,true))/\k (([Nd.mk 2 [] 0 0 false 0 0]:List Nd)=h/\n)) (Iv (bj d/\Ev (d,false))/\k (([Nd.mk 2 l.2.1 0 0 false 0 0]:List Nd)=h/\n))) (ag (az a 46) (Iv True/\([Nd.mk 2 XB 0 0 false 0 0]:List Nd)=h/\j) (ag (az a 94) (([Nd.mk 7 [] 0 0 false 0 0]:List Nd)=h/\j) (ag (az a 36) (([Nd.mk 8 [] 0 0 false 0 0]:List Nd)=h/\j) (ag (az a 42) (ag (az a 42) (b) (c)) (ag (az a 43) (ag (az a 43) (b) (c)) (ag (az a 63) (ag (az a 63) (b) (c)) (ag (az a 41) (ag (az a 41) (b) (c)) (ag (az a 93) (ag (az a 93) (b) (c)) (ag (az a 123) (ag (az a 123) (b) (c)) (ag (az a 125) (ag (az a 125) (b) (c)) (ag (az a 124) (b) (c)))))))))))))))))))
def Y9:∀y,Sr y=QpN y:=λy=>by kernel_rfl
def Ss (y:(List (Int×Int))×bO):Prop:=let b:=(l7 y).1;let A:=(l7 y).2;let W:=y.2.i.toNat;let B:=((b.opens:Nat):Int);let C:=((b.i:Nat):Int);let D:=((b.ae:Nat):Int);let q6:=an .i64 y.2.i 1;let q7:=bO.mk q6 y.2.opens y.2.ae y.2.err y.2.wh;let j:=aY y.1 (nn q7) 63;let q9:=aQ y.1 (nn q7) 63;let k:=((j.ae:Nat):Int);let l:=((j.opens:Nat):Int);let m:=((j.i:Nat):Int);let H:=an .i64 k 1;let X:=an .i64 l 1;let h:=bO.mk m l k j.err j.wh;let a:=aY y.1 (nn h) 58;let q17:=!(aQ y.1 (nn h) 58);let o:=((a.ae:Nat):Int);let q:=((a.opens:Nat):Int);let r:=((a.i:Nat):Int);let s:=Ps.ak y.1 (nn h) W 10;let t:=Ps.ak y.1 (nn h) W 13;let Y:=an .i64 q 1;let E:=(y.1,bO.mk m X H j.err j.wh);let c:=(qX E).1;let I:=((c.i:Nat):Int);let J:=((c.ae:Nat):Int);let K:=da .i64 ((c.opens:Nat):Int) 1;let F:=aZ [Nd.mk 6 [] 0 0 false H 1] (qX E).2;let G:=bO.mk r q o a.err a.wh;let u:=(y.1,bO.mk r Y o a.err a.wh);let v:=Ps.ak y.1 (nn G) W 4;let w:=Ps.ak y.1 (nn G) W 10;let d:=(qX u).1;let L:=((d.ae:Nat):Int);let M:=((d.i:Nat):Int);let N:=da .i64 ((d.opens:Nat):Int) 1;let O:=bO.mk I K J c.err c.wh;let f:=aY y.1 (nn O) 41;let q40:=!(aQ y.1 (nn O) 41);let P:=((f.ae:Nat):Int);let Q:=((f.opens:Nat):Int);let R:=((f.i:Nat):Int);let S:=bO.mk M N L d.err d.wh;let g:=aY y.1 (nn S) 41;let q46:=!(aQ y.1 (nn S) 41);let T:=((g.i:Nat):Int);let U:=((g.opens:Nat):Int);let V:=((g.ae:Nat):Int);let Z:=bO.mk R Q P f.err f.wh;let x:=Ps.ak y.1 (nn Z) W 4;let q52:=bO.mk T U V g.err g.wh;let z:=Ps.ak y.1 (nn q52) W 4;let e:=λp:Prop=>aa [y.1] (aa [bC y.1] p);let n:Prop:=(0<=y.2.i/\(y.2.i<(y.1.length:Int)));Iv (bj (y.1,q7)/\True)/\aa ([63]:List Int) (aa [y.1] (aa [bC y.1] (aa [q6,y.2.opens,y.2.ae,y.2.err,y.2.wh] (ag q9 (Iv (bj (y.1,h)/\True)/\aa ([58]:List Int) (aa [y.1] (aa [bC y.1] (aa [m,l,k,j.err,j.wh] (ag q17 (Iv (bj (y.1,G)/\n)/\aa ([y.2.i,4]:List Int) (aa [y.1] (aa [bC y.1] (aa [r,q,o,a.err,a.wh] ([]=A/\e (((v.i:Nat):Int)=C/\((v.opens:Nat):Int)=B/\((v.ae:Nat):Int)=D/\v.err=b.err/\v.wh=b.wh/\True)))))) (ag (aC 20 q) (Iv (bj (y.1,G)/\n)/\aa ([y.2.i,10]:List Int) (aa [y.1] (aa [bC y.1] (aa [r,q,o,a.err,a.wh] ([]=A/\e (((w.i:Nat):Int)=C/\((w.opens:Nat):Int)=B/\((w.ae:Nat):Int)=D/\w.err=b.err/\w.wh=b.wh/\True)))))) (Iv ((bj u/\True)/\(lvl u+4)<(lvl y+0))/\aa [y.1] (aa [bC y.1] (aa [r,Y,o,a.err,a.wh] (ag (az d.err 0) (Iv (bj (y.1,S)/\True)/\aa ([41]:List Int) (aa [y.1] (aa [bC y.1] (aa [M,N,L,d.err,d.wh] (ag q46 (Iv (bj (y.1,q52)/\n)/\aa ([y.2.i,4]:List Int) (aa [y.1] (aa [bC y.1] (aa [T,U,V,g.err,g.wh] ([]=A/\e (((z.i:Nat):Int)=C/\((z.opens:Nat):Int)=B/\((z.ae:Nat):Int)=D/\z.err=b.err/\z.wh=b.wh/\True)))))) ((qX u).2=A/\e (T=C/\U=B/\V=D/\g.err=b.err/\g.wh=b.wh/\True))))))) ((qX u).2=A/\e (M=C/\N=B/\L=D/\d.err=b.err/\d.wh=b.wh/\True)))))))))))) (ag (aC 20 l) (Iv (bj (y.1,h)/\n)/\aa ([y.2.i,10]:List Int) (aa [y.1] (aa [bC y.1] (aa [m,l,k,j.err,j.wh] ([]=A/\e (((s.i:Nat):Int)=C/\((s.opens:Nat):Int)=B/\((s.ae:Nat):Int)=D/\s.err=b.err/\s.wh=b.wh/\True)))))) (ag (aC 4 k) (Iv (bj (y.1,h)/\n)/\aa ([y.2.i,13]:List Int) (aa [y.1] (aa [bC y.1] (aa [m,l,k,j.err,j.wh] ([]=A/\e (((t.i:Nat):Int)=C/\((t.opens:Nat):Int)=B/\((t.ae:Nat):Int)=D/\t.err=b.err/\t.wh=b.wh/\True)))))) (Iv ((bj E/\True)/\(lvl E+4)<(lvl y+0))/\aa [y.1] (aa [bC y.1] (aa [m,X,H,j.err,j.wh] (ag (az c.err 0) (Iv (bj (y.1,O)/\True)/\aa ([41]:List Int) (aa [y.1] (aa [bC y.1] (aa [I,K,J,c.err,c.wh] (ag q40 (Iv (bj (y.1,Z)/\n)/\aa ([y.2.i,4]:List Int) (aa [y.1] (aa [bC y.1] (aa [R,Q,P,f.err,f.wh] ([]=A/\e (((x.i:Nat):Int)=C/\((x.opens:Nat):Int)=B/\((x.ae:Nat):Int)=D/\x.err=b.err/\x.wh=b.wh/\True)))))) (fits (ab F) 72/\F=A/\e (R=C/\Q=B/\P=D/\f.err=b.err/\f.wh=b.wh/\True))))))) (fits (ab F) 72/\F=A/\e (I=C/\K=B/\J=D/\c.err=b.err/\c.wh=b.wh/\True))))))))))))
def Y':∀y,Ss y=QpO y:=λy=>by kernel_rfl
theorem Su {y:PS} {s:bO} (h:(nn s).opens=(nn y.2).opens):gX (y.1,s)=gX y:=by grind [gX]
theorem Sv {y:PS} {s:bO} (h:(nn s).opens=(nn y.2).opens):lvl (y.1,s)=lvl y:=by grind [lvl]
def xJ (y:PS):mK y.1 (gX y):=vD _
structure PsF (G:List Gt) (s:bO):Prop where
 ok:bj (G,s)
 a:fW G (nn s) (nn s)
 zi:((nn s).i:Int)=s.i
 zo:((nn s).opens:Int)=s.opens
 zg:((nn s).ae:Int)=s.ae
 len:G.length<=4096
 il:(nn s).i<=G.length
 ol:(nn s).opens<=20
 gl:(nn s).ae<=4
variable {G:List Gt} {Z:Nat} {s:Ps} {Y:bO} {y:PS} {A:Ps->Ps×List Nd} {l:List (List Nd)}
def bj.f {s:bO} (h:bj (G,s)):PsF G s:=by
 obtain⟨b1,a,b,c,_⟩:G.length<=4096/\(0<=s.i/\s.i<=G.length)/\(0<=s.opens/\s.opens<=20)/\(0<=s.ae/\s.ae<=4)/\_:=id h;exact⟨h,h.adv,Zby a.1,Zby b.1,Zby c.1,b1,by show s.i.toNat<=_;omega,by show s.opens.toNat<=_;omega,by show s.ae.toNat<=_;omega⟩
theorem HJ (h:s.err≠0\/aQ G s 124=false):ga G A Z s l=(s,l):=by
 cases Z with
 | zero=>rfl
 | succ Z=>
  grind [ga]
def Y_ (h:bj y):qX y=DY y.1 (gX y) (nn y.2):=by
 have:=(bj.f (G:=y.1) (s:=y.2) h).ol;unfold qX gX;rw[show 21-(nn y.2).opens=(20-(nn y.2).opens)+1 by omega];rfl
theorem QpR (y:PS) (B:HH.pre y):QbL y:=by
 obtain⟨h0,_⟩:bj y/\True:=B;have f:=bj.f (G:=y.1) (s:=y.2) h0;obtain⟨c1,c2⟩:=mM (xJ y) f.il f.gl;have eA:=Y_ h0;have t:qX y=((ga y.1 (gX y) (y.1.length+2-(mZ y).1.i) (mZ y).1 [(mZ y).2]).1,bK 4 (ga y.1 (gX y) (y.1.length+2-(mZ y).1.i) (mZ y).1 [(mZ y).2]).2):=eA;unfold QbL;simp only[dq,ez,aj,aO,aU,gg,iH];refine⟨⟨h0,by grind⟩,⟨(zz (mZ y).1,[(mZ y).2]),rfl,rfl,rfl,rfl,rfl,rfl,h0.of c1,c1.op,c1.le,by simp,?_,_,λ_=>?_,rfl⟩,λx A=>?_⟩
 ·show total [(mZ y).2]+2*1<=_
  have e:total [(mZ y).2]=(mZ y).2.length:=by simp[total]
  have c3:(mZ y).2.length<=3*((mZ y).1.i-(nn y.2).i)+1:=c2;rw[e];show _<=3*((mZ y).1.i-(nn y.2).i)+3
  omega
 ·have:(mZ y).1.i<=y.1.length:=c1.len;show _<=_+(mZ y).1.i
  omega
 ·obtain⟨s,b⟩:=x;obtain⟨q,c,C,H,I,n,p,u⟩:=A;simp only at*
  have g:=q.f;rw[<-u] at t;have z:b.length<=10000/\total b<=20000:=by have:=g.il;have:=g.len;omega
  have cs:s.err≠0\/aQ y.1 (nn s) 124=false->qX y=(nn s,bK 4 b):=λh=>by rw[t,HJ h]
  refine⟨λk=>⟨q,λl=>?_,λl=>?_⟩,λk=>?_⟩
  ·have o:=cQ l;have a3:=g.a.next o;have hs:aY y.1 (nn s) 124=(nn s).next:=Zac l;have r:bj (y.1,⟨(nn s).next.i,(nn s).next.opens,(nn s).next.ae,(nn s).next.err,(nn s).next.wh⟩):=q.of a3;have g3:=r.f;have d:(nn s).next.opens=(nn y.2).opens:=c;have v:=Su (y:=y) (s:=⟨(nn s).next.i,(nn s).next.opens,(nn s).next.ae,(nn s).next.err,(nn s).next.wh⟩) d;have w:=Sv (y:=y) (s:=⟨(nn s).next.i,(nn s).next.opens,(nn s).next.ae,(nn s).next.err,(nn s).next.wh⟩) d;obtain⟨j,D⟩:=mM (xJ y) (s:=(nn s).next) a3.len a3.gm;rw[hs,v,w];have E:(nn s).next.i<=(mJ y.1 (gX y) (nn s).next).1.i:=j.le;have F:=j.len;have J:(nn s).next.i=(nn s).i+1:=rfl;refine⟨⟨r,ω⟩,?_,(zz (mJ y.1 (gX y) (nn s).next).1,b++[(mJ y.1 (gX y) (nn s).next).2]),rfl,rfl,rfl,rfl,rfl,rfl,⟨r.of j,j.op.trans c,?_,by simp,?_,?_⟩,?_⟩
   ·grind
   ·show _<=(mJ y.1 (gX y) (nn s).next).1.i;omega
   ·show total (b++[_])+2*(b++[_]).length<=3*((mJ y.1 (gX y) (nn s).next).1.i-_)+3
    grind [gb]
   ·have:=p k;obtain⟨m,rfl⟩:∃m,n=m+1:=⟨n-1,ω⟩;refine⟨m,λ_=>by show _<=m+(mJ y.1 (gX y) (nn s).next).1.i;omega,?_⟩;rw[<-u]
    conv=>rhs;unfold ga
    rw[Zac ⟨k,l⟩];rfl
   ·show 2*(y.1.length-(mJ y.1 (gX y) (nn s).next).1.i)+(if (mJ y.1 (gX y) (nn s).next).1.err=0 then 1 else 0)<2*(y.1.length-(nn s).i)+(if s.err=0 then 1 else 0)
    grind
  ·grind [aY]
  ·rw[cs (.inl k)];exact⟨⟨ω,ω⟩,rfl,g.zi.symm,g.zo.symm,g.zg.symm,rfl,rfl⟩
theorem qY {r:Int} (h:aQ G s r):aY G s r=s.next:=Zac h
theorem qZ {r:Int} (h:aQ G s r=false):aY G s r=s:=Zaa (by grind)
theorem HN (h:¬(s.err=0/\s.i<G.length/\aQ G s 124=false/\¬(aQ G s 41/\0<s.opens))):eI G A Z s l=(s,l):=by
 cases Z with
 | zero=>rfl
 | succ Z=>unfold eI;rw[Zaa h]
theorem QpS (y:PS) (A:M_.pre y):Sp y:=by
 obtain⟨h0,_⟩:bj y/\True:=A;have f:=bj.f (G:=y.1) (s:=y.2) h0;unfold Sp;simp only[QaU,dq,ez,aj,aO,aU,Zan,Zao];refine⟨⟨(y.2,[]),rfl,rfl,rfl,rfl,rfl,rfl,h0,rfl,Zah _,by simp[total],by simp,_,λ_=>?_,rfl⟩,λx w=>?_⟩
 ·grind
 ·obtain⟨s,a⟩:=x;obtain⟨e,b,B,K,C,n,o,p⟩:=w;simp only at*
  have g:=e.f;have I:=g.il;have J:=g.len;have zi:=g.zi;have zo:=g.zo;have v:a.length<=10000/\total a<=20000:=by grind
  rw[pni,<-p];have H:=Su (y:=y) (s:=s) b;have r:=Sv (y:=y) (s:=s) b;have t:za (y.1,s)=ft y.1 (gX y) (nn s):=by grind [za]
  rw[t,r];have stop:¬((nn s).err=0/\(nn s).i<y.1.length/\aQ y.1 (nn s) 124=false/\¬(aQ y.1 (nn s) 41/\0<(nn s).opens))->(total a<=100000/\a.length<=100000)/\bK 3 a=bK 3 (eI y.1 (gX y) n (nn s) a).2/\s.i=((eI y.1 (gX y) n (nn s) a).1.i:Int)/\s.opens=((eI y.1 (gX y) n (nn s) a).1.opens:Int)/\s.ae=((eI y.1 (gX y) n (nn s) a).1.ae:Int)/\s.err=(eI y.1 (gX y) n (nn s) a).1.err/\s.wh=(eI y.1 (gX y) n (nn s) a).1.wh:=λh=>by
   rw[HN h];exact⟨⟨ω,ω⟩,rfl,zi.symm,zo.symm,g.zg.symm,rfl,rfl⟩
  have go:s.err=0->s.i<y.1.length->aQ y.1 (nn s) 124=false->¬(aQ y.1 (nn s) 41/\0<s.opens)->((bj (y.1,s)/\Gb (y.1,s))/\lvl y+2<lvl y+3)/\((a++[(ft y.1 (gX y) (nn s)).2]).length:Int)*(24:Nat)<=140737488355328/\∃z:bO×List (List Nd),a++[(ft y.1 (gX y) (nn s)).2]=z.2/\((ft y.1 (gX y) (nn s)).1.i:Int)=z.1.i/\((ft y.1 (gX y) (nn s)).1.opens:Int)=z.1.opens/\((ft y.1 (gX y) (nn s)).1.ae:Int)=z.1.ae/\(ft y.1 (gX y) (nn s)).1.err=z.1.err/\(ft y.1 (gX y) (nn s)).1.wh=z.1.wh/\Sn y z/\Ew y z<Ew y (s,a):=λh1 c d l=>by
   have hl:(nn s).i<y.1.length:=ω;obtain⟨j,q,D⟩:=xf (xJ y) hl g.gl;have E:(nn s).i<=(ft y.1 (gX y) (nn s)).1.i:=j.le;have F:=j.len;rw[Zac h1] at C;refine⟨⟨⟨e,c⟩,ω⟩,?_,(zz (ft y.1 (gX y) (nn s)).1,a++[(ft y.1 (gX y) (nn s)).2]),rfl,rfl,rfl,rfl,rfl,rfl,⟨e.of j,j.op.trans b,?_,?_,?_,?_⟩,?_⟩
   ·grind
   ·show _<=(ft y.1 (gX y) (nn s)).1.i;omega
   ·show total (a++[_])<=3*((ft y.1 (gX y) (nn s)).1.i-_)
    rw[gb];omega
   ·show(a++[_]).length<=(ft y.1 (gX y) (nn s)).1.i-_+(if (ft y.1 (gX y) (nn s)).1.err=0 then 0 else 1)
    grind
   ·have:=o h1;obtain⟨m,rfl⟩:∃m,n=m+1:=⟨n-1,ω⟩;refine⟨m,λh=>by have:=q h;show _<=m+(ft y.1 (gX y) (nn s)).1.i;omega,?_⟩;rw[<-p]
    conv=>rhs;unfold eI
    rw[Zac ⟨h1,hl,d,λh=>l ⟨h.1,ω⟩⟩];rfl
   ·show 2*(y.1.length-(ft y.1 (gX y) (nn s)).1.i)+(if (ft y.1 (gX y) (nn s)).1.err=0 then 1 else 0)<2*(y.1.length-(nn s).i)+(if s.err=0 then 1 else 0)
    grind
  refine⟨λh1=>⟨λc=>⟨e,λd=>⟨e,λl=>⟨λu=>go h1 c d ω,λu=>stop λk=>k.2.2.2 ⟨l,ω⟩⟩,λl=>go h1 c d λk=>?_⟩,λd=>stop λk=>?_⟩,λc=>stop λk=>?_⟩,λh1=>stop λk=>h1 k.1⟩
  ·grind
  ·grind
  ·omega
def ez2 (a b c:Nat) (e w:Int):nn ⟨a,b,c,e,w⟩=⟨a,b,c,e,w⟩:=rfl
theorem QeJ {y:PS} (h:uS y):za y=nG y.1 (pe y).1 (pe y).2.1 (pe y).2.2 (dx y).2:=by
 obtain⟨h1,a⟩:=h;show ft y.1 (gX y) (nn y.2)=_
 unfold ft pe;grind [dx]
theorem QeK {y:PS} (h1:(dx y).1.err=0) (a:aQ y.1 (dx y).1 42=false) (b:aQ y.1 (dx y).1 43=false) (c:aQ y.1 (dx y).1 63=false) (d:aQ y.1 (dx y).1 123=false):za y=dx y:=by
 show ft y.1 (gX y) (nn y.2)=_
 grind [ft,dx]
theorem Za {y:PS} (h1:(dx y).1.err≠0):za y=((dx y).1,[]):=by
 show ft y.1 (gX y) (nn y.2)=_
 grind [ft,dx]
theorem QpT (y:PS) (e:Na.pre y):Sq y:=by
 obtain⟨h0,hi⟩:bj y/\y.2.i<y.1.length:=e;have f:=bj.f (G:=y.1) (s:=y.2) h0;have zi:=f.zi;obtain⟨a,a2,a3⟩:fW y.1 (nn y.2) (dx y).1/\((dx y).1.err=0->(nn y.2).i<(dx y).1.i)/\(dx y).2.length<=3*((dx y).1.i-(nn y.2).i):=Ae (xJ y) ω f.gl;have o1:=h0.of a;have a4:=a.len;have len:=f.len;have j:uS y->bj (y.1,⟨(pe y).1.i,(pe y).1.opens,(pe y).1.ae,(pe y).1.err,(pe y).1.wh⟩):=λ⟨_,h⟩=>h0.of (by
  unfold pe;split
  ·exact a.next (cQ ‹_›)
  ·split
   ·exact a.next (cQ ‹_›)
   ·split
    ·exact a.next (cQ ‹_›)
    ·refine(xe a ?_).1;rcases h with h | h | h | h<;>exact cQ h)
 have i2:∀r,aQ y.1 (dx y).1 r->(dx y).1.i<y.1.length:=λr h=>cQ h
 have l:∀q:List Gt×bO,q=(y.1,y.2)->q=y:=λ_ h=>h
 have L:lvl y+1<lvl y+2:=ω;unfold Sq;simp only[dq,ez,aj,aO,aU,gg,iH,ZaZ,ZaY,Zan,Zao];have t:=@QeK y;have u:=@Za y;have g:=@QeJ y;refine⟨⟨⟨h0,hi⟩,L⟩,λb=>?_,λb=>⟨?_,λc=>?_⟩⟩
 ·grind
 ·have v:aQ y.1 (dx y).1 42->uS y:=λh=>⟨b,.inl h⟩
  have w:aQ y.1 (dx y).1 43->uS y:=λh=>⟨b,.inr (.inl h)⟩
  have x:aQ y.1 (dx y).1 63->uS y:=λh=>⟨b,.inr (.inr (.inl h))⟩
  have z:aQ y.1 (dx y).1 123->uS y:=λh=>⟨b,.inr (.inr (.inr h))⟩
  have m:pe y=if aQ y.1 (dx y).1 42 then((dx y).1.next,0,-1) else if aQ y.1 (dx y).1 43 then((dx y).1.next,1,-1) else if aQ y.1 (dx y).1 63 then((dx y).1.next,0,1) else f_ y.1 (dx y).1:=rfl
  grind [Gb,qY,qZ]
 ·rw[g c];have d:=j c;have o:(dx y).2.length<=20000:=ω;have p:∀n:Nd,([n]++(dx y).2).length=1+(dx y).2.length:=λn=>by grind
  unfold nG;refine⟨λk=>by grind,λk=>?_⟩;rw[Zaa ω];exact⟨d,by grind,rfl,rfl,rfl,rfl,rfl,rfl⟩
theorem QpU (y:PS) (k:Sk.pre y):Sr y:=by
 obtain⟨h0,hi⟩:bj y/\y.2.i<y.1.length:=k;obtain⟨d,m,hl,l,o1⟩:=h0.Y3 hi;have f:=bj.f (G:=y.1) (s:=y.2) h0;have i0:0<=y.2.i:=h0.2.1.1;have zi:=f.zi;have a:y.2.i+1=((nn y.2).next.i:Int):=by simp_all
 have zo:=f.zo;have zg:=f.zg;have eF:dx y=iZ y.1 (gX y) (nn y.2):=rfl;unfold iZ at eF;have j:(y.1.getD (nn y.2).i (0,0)).1=aD y.1 (nn y.2).i:=rfl;have L:lvl y<lvl y+1:=ω;have e:iC y.1 (gX y) (nn y.2)=l7 y:=rfl;have sp:∀b,Ev (y,b)=(y.2.i<y.1.length/\b=B_ y):=λ_=>rfl
 have c:B_ y=decide ((dZ y.1 (nn y.2)).2.1=[]):=rfl;unfold Sr;simp only[QaU,dq,ez,aj,d,pni,dA,Gb];rw[j];simp only[e] at eF;generalize aD y.1 (nn y.2).i=r at*
 generalize l7 y=gs at*
 generalize dx y=at_ at*
 cases g:eD y.1 (nn y.2).i with
 | true=>
  grind []
 | false=>
  simp only[g,ZaE,Za0] at eF;simp only[reduceCtorEq,ZbV,ZaX,Zal];refine⟨⟨h0,i0,hi⟩,i0,hi,λk1=>?_,λk1=>⟨λk2=>?_,λk2=>⟨λk3=>?_,λk3=>⟨λk4=>?_,λk4=>⟨λk5=>?_,λk5=>⟨λk6=>?_,λk6=>?_⟩⟩⟩⟩⟩⟩
  ·grind
  ·grind
  ·simp only[k1,k2,k3,Zbv,Za0] at eF;subst eF;refine⟨λh=>⟨⟨h0,hi,h.symm⟩,?_,rfl,rfl,rfl,rfl,rfl⟩,λh=>⟨⟨h0,hi,h.symm⟩,rfl,rfl,rfl,rfl,rfl,rfl⟩⟩;rw[h] at c;have:=ZaH c.symm;simp only[this];rfl
  ·simp only[k1,k2,k3,k4,Zbv,Za0] at eF;subst eF;exact⟨rfl,a,zo.symm,zg.symm,rfl,rfl⟩
  ·simp only[k1,k2,k3,k4,k5,Zbv,Za0] at eF;subst eF;exact⟨rfl,a,zo.symm,zg.symm,rfl,rfl⟩
  ·simp only[k1,k2,k3,k4,k5,k6,Zbv,Za0] at eF;subst eF;exact⟨rfl,a,zo.symm,zg.symm,rfl,rfl⟩
  ·simp only[k1,k2,k3,k4,k5,k6,Za0] at eF;have w:(r=42\/r=43\/r=63\/r=41\/r=93\/r=123\/r=125\/r=124)->at_=((nn y.2).ak y.1 (nn y.2).i 4,[]):=λh=>by grind
   have n:¬(r=42\/r=43\/r=63\/r=41\/r=93\/r=123\/r=125\/r=124)->at_=((nn y.2).next,[xb (eh r)]):=λh=>by grind
   clear eF
   with_reducible repeat' first | apply And.intro | intro _
   all_goals first
    | assumption
    | (exfalso;omega)
    | (rw[w ω];done)
    | (rw[n ω];done)
    | (rw[n ω];first | rfl | exact a | exact zo.symm | exact zg.symm)
theorem KM {s:bO} (h:(nn s).opens=(nn y.2).opens+1):qX (y.1,s)=gX y (nn s):=by
 unfold qX gX;grind
theorem Sw (h:(nn Y).opens=(nn y.2).opens+1) (a:(nn y.2).opens<20):lvl (y.1,Y)+4<lvl y:=by
 grind [lvl]
theorem KN {n:Nat} (h:n<=1000000):an .i64 (n:Int) 1=((n+1:Nat):Int):=by grind
theorem xK (h:1<=Z) (a:Z<=1000000):da .i64 (Z:Int) 1=((Z-1:Nat):Int):=by grind
structure Grp (y:PS) (s:Ps):Prop where
 a:fW y.1 (nn y.2) s
 o:s.opens<20
theorem Grp.Qi3 {y:PS} {s:Ps} {g:Nat} (h0:bj y) (h:Grp y s) (f:g=s.ae\/g=s.ae+1/\s.ae<4):bj (y.1,⟨s.i,((s.opens+1:Nat):Int),(g:Int),s.err,s.wh⟩):=by
 obtain⟨b1,c,d,e,b⟩:y.1.length<=4096/\(0<=y.2.i/\y.2.i<=y.1.length)/\(0<=y.2.opens/\y.2.opens<=20)/\(0<=y.2.ae/\y.2.ae<=4)/\Fx y.1:=h0;have:=h.a.len;have:=h.a.gm;have:=h.o;exact⟨b1,⟨ZaF _,by grind⟩,⟨ZaF _,by grind⟩,⟨ZaF _,by grind⟩,b⟩
theorem Grp.out {y:PS} {s:Ps} {g:Nat} (h0:bj y) (h:Grp y s) (j:g=s.ae\/g=s.ae+1/\s.ae<4):∀a,a=gX y ⟨s.i,s.opens+1,g,s.err,s.wh⟩->a.1.opens=s.opens+1/\fW y.1 (nn y.2) { a.1 with opens:=a.1.opens-1 }/\a.2.length<=20000:=λa b=>by
 have h1:=h.a.len;have c:=h.a.gm;obtain⟨c1,c2⟩:=xJ y ⟨s.i,s.opens+1,g,s.err,s.wh⟩ h1 (by grind);rw[<-b] at c1 c2;have c3:a.1.opens=s.opens+1:=c1.op;have c4:a.2.length<=3*(a.1.i-s.i)+1:=c2;have c5:=c1.len;have c6:s.i<=a.1.i:=c1.le;have c7:g<=a.1.ae:=c1.gr;have c8:y.1.length<=4096:=h0.1;have d:=h.a.le;have e:=h.a.op;have f:=h.a.gr;exact⟨c3,⟨by grind,c5,by grind,by grind,c1.gm⟩,ω⟩
def Ay (G:List Gt) (c:Nat) (a:Ps×List Nd) (l:List Nd):Ps×List Nd:=
 let b:Ps:={ a.1 with opens:=a.1.opens-1 }
 if b.err=0/\aQ G b 41=false then(b.ak G c 4,[]) else(if b.err=0 then b.next else b,l)
theorem QpV (y:PS) (Q:Sl.pre y):Ss y:=by
  obtain⟨h0,hi⟩:bj y/\y.2.i<y.1.length:=Q;obtain⟨L,O,hl,w,o1⟩:=h0.Y3 hi;have i0:0<=y.2.i:=h0.2.1.1;have eF:∀free,aQ y.1 (nn y.2).next 63=free->l7 y=
      (let A:=if free then(nn y.2).next.next else(nn y.2).next
       if free/\aQ y.1 A 58=false then(A.ak y.1 (nn y.2).i 4,[])
       else
        let s3:=if free then A.next else A
        if 20<=s3.opens then(s3.ak y.1 (nn y.2).i 10,[])
        else if free=false/\4<=s3.ae then(s3.ak y.1 (nn y.2).i 13,[])
        else
          let g:=if free then s3.ae else s3.ae+1
          let a:=gX y ⟨s3.i,s3.opens+1,g,s3.err,s3.wh⟩
          Ay y.1 (nn y.2).i a (if free then a.2 else { nd 6 with cap:=g,kids:=1 }::a.2)):=λfree h=>by
    subst h;show iC y.1 (gX y) (nn y.2)=_
    grind [iC,Ay]
  have v:∀(a:Ps) (b:Ps×List Nd),b.1=a->(a.i:Int)=b.1.i/\(a.opens:Int)=b.1.opens/\(a.ae:Int)=b.1.ae/\a.err=b.1.err/\a.wh=b.1.wh:=λa b h=>by grind
  
  have K:∀(s:Ps) (g:Nat) (a:Ps×List Nd) (r l:List Nd),Grp y s->(g=s.ae\/g=s.ae+1/\s.ae<4)->a=gX y ⟨s.i,s.opens+1,g,s.err,s.wh⟩->l7 y=Ay y.1 (nn y.2).i a l->r=l->
      da .i64 (a.1.opens:Int) 1=((a.1.opens-1:Nat):Int)/\((r.length:Int)*(72:Nat)<=140737488355328\/a.2.length+1<r.length)/\
      (a.1.err=0->bj (y.1,⟨a.1.i,((a.1.opens-1:Nat):Int),a.1.ae,a.1.err,a.1.wh⟩)/\
        (aQ y.1 { a.1 with opens:=a.1.opens-1 } 41=false->[]=(l7 y).2/\(l7 y).1=Ps.ak y.1 { a.1 with opens:=a.1.opens-1 } (nn y.2).i 4)/\
        (aQ y.1 { a.1 with opens:=a.1.opens-1 } 41->r=(l7 y).2/\(l7 y).1=Ps.next { a.1 with opens:=a.1.opens-1 }))/\
      (a.1.err≠0->r=(l7 y).2/\(l7 y).1={ a.1 with opens:=a.1.opens-1 }):=λs g a r l H z p N P=>by
    obtain⟨c1,c2,c3⟩:=H.out h0 z a p;have c4:=H.o;subst P;unfold Ay at N;refine⟨xK ω ω,ω,λk=>⟨h0.of c2,λk2=>?_,λk2=>?_⟩,λk=>?_⟩
    · grind
    · grind
    · grind
  unfold Ss;simp only[QaU,dq,L,O,ez,pni,aj,aO,aU,Zan,Zao,Zbn];generalize (nn y.2).next=c at*
  refine⟨o1,λu=>?_,λu=>?_⟩
  · have e:=eF true u;have a2:=w.next (cQ u);have I:=h0.of a2;rw[qY u];refine⟨I,λt=>?_,λt=>?_⟩
    · rw[qZ t];rw[show l7 y=(c.next.ak y.1 (nn y.2).i 4,[]) by rw[e];exact Zac ⟨rfl,t⟩];exact⟨⟨I,i0,hi⟩,rfl,rfl,rfl,rfl,rfl,rfl⟩
    · have a3:=a2.next (cQ t);have R:=h0.of a3;have e:=e.trans (Zaa (λq=>by rw[Zac rfl,t] at q;cases q.2));rw[qY t];refine⟨λm=>?_,λm=>?_⟩
      · rw[show l7 y=(c.next.next.ak y.1 (nn y.2).i 10,[]) from e.trans (Zac (show 20<=c.next.next.opens by omega))];exact⟨⟨R,i0,hi⟩,rfl,rfl,rfl,rfl,rfl,rfl⟩
      · have G:Grp y c.next.next:=⟨a3,ω⟩;have e:=(e.trans (Zaa (show ¬20<=c.next.next.opens by omega))).trans (Zaa (λq=>by cases q.1));have op:c.next.next.opens+1=(nn y.2).opens+1:=by rw[a3.op]
        rw[KN ω,KM (y:=y) (s:=⟨(c.next.next.i:Nat),((c.next.next.opens+1:Nat):Int),(c.next.next.ae:Nat),c.next.next.err,c.next.next.wh⟩) op,ez2];generalize p:gX y ⟨c.next.next.i,c.next.next.opens+1,c.next.next.ae,c.next.next.err,c.next.next.wh⟩=a;have e:l7 y=Ay y.1 (nn y.2).i a a.2:=by rw[e,<-p];rfl
        obtain⟨B,_,C,D⟩:=K _ _ a a.2 a.2 G (.inl rfl) p.symm e rfl;rw[B,ez2];refine⟨⟨G.Qi3 h0 (.inl rfl),Sw op ω⟩,λk=>?_,λk=>?_⟩
        · obtain⟨x,E,F⟩:=C k;refine⟨x,λj=>?_,λj=>?_⟩
          · rw[qZ j];obtain⟨d,f⟩:=E j;exact⟨⟨x,i0,hi⟩,d,v _ _ f⟩
          · rw[qY j];obtain⟨d,f⟩:=F j;exact⟨d,v _ _ f⟩
        · obtain⟨d,f⟩:=D k;exact⟨d,v _ _ f⟩
  · have e:=eF false u;have e:=e.trans (Zaa (λq=>by cases q.1));rw[qZ u];refine⟨λm=>?_,λm=>⟨λM=>?_,λM=>?_⟩⟩
    · rw[show l7 y=(c.ak y.1 (nn y.2).i 10,[]) from e.trans (Zac (show 20<=c.opens by omega))];exact⟨⟨h0.of w,i0,hi⟩,rfl,rfl,rfl,rfl,rfl,rfl⟩
    · rw[show l7 y=(c.ak y.1 (nn y.2).i 13,[]) from(e.trans (Zaa (show ¬20<=c.opens by omega))).trans (Zac ⟨rfl,show 4<=c.ae by omega⟩)];exact⟨⟨h0.of w,i0,hi⟩,rfl,rfl,rfl,rfl,rfl,rfl⟩
    · have G:Grp y c:=⟨w,ω⟩;have e:=(e.trans (Zaa (show ¬20<=c.opens by omega))).trans (Zaa (λq=>by have:4<=c.ae:=q.2;omega));have op:c.opens+1=(nn y.2).opens+1:=by rw[w.op]
      have z:c.ae+1=c.ae\/c.ae+1=c.ae+1/\c.ae<4:=.inr ⟨rfl,ω⟩;rw[KN (n:=c.opens) ω,KN (n:=c.ae) ω,KM (y:=y) (s:=⟨(c.i:Nat),((c.opens+1:Nat):Int),((c.ae+1:Nat):Int),c.err,c.wh⟩) op,ez2];generalize p:gX y ⟨c.i,c.opens+1,c.ae+1,c.err,c.wh⟩=a;have e:l7 y=Ay y.1 (nn y.2).i a ({ nd 6 with cap:=((c.ae+1:Nat):Int),kids:=1 }::a.2):=by rw[e,<-p];rfl
      obtain⟨B,S,C,D⟩:=K _ _ a ([Nd.mk 6 [] 0 0 false ((c.ae+1:Nat):Int) 1]++a.2) _ G z p.symm e rfl;have J:((([Nd.mk 6 [] 0 0 false ((c.ae+1:Nat):Int) 1]++a.2).length:Nat):Int)*(72:Nat)<=140737488355328:=by
        rcases S with h | h
        · exact h
        · rw[Zab,ZbA] at h;omega
      rw[B,ez2];refine⟨⟨G.Qi3 h0 z,Sw op ω⟩,λk=>?_,λk=>?_⟩
      · obtain⟨x,E,F⟩:=C k;refine⟨x,λj=>?_,λj=>?_⟩
        · rw[qZ j];obtain⟨d,f⟩:=E j;exact⟨⟨x,i0,hi⟩,d,v _ _ f⟩
        · rw[qY j];obtain⟨d,f⟩:=F j;exact⟨J,d,v _ _ f⟩
      · obtain⟨d,f⟩:=D k;exact⟨J,d,v _ _ f⟩
inductive Fm where
 | alt | cat | rep | zb | uT
variable {G:List Gt}
def fmC:Fm->bf D
 | .alt=>HH | .cat=>M_ | .rep=>Na | .zb=>Sk | .uT=>Sl
def QpW:∀i,(fmC i).Y->Nat
 | .alt=>λy=>lvl y+4 | .cat=>λy=>lvl y+3 | .rep=>λy=>lvl y+2 | .zb=>λy=>lvl y+1 | .uT=>λy=>lvl y
def fmF:Fm->Func
 | .alt=>Tryz.f42 | .cat=>Tryz.f75 | .rep=>Tryz.f109 | .zb=>Tryz.f137 | .uT=>Tryz.f162
def Qi4:Fm->vE
 | .alt=>[tt,y9] | .cat=>[W2,y9] | .rep=>[tt,W2,HF] | .zb=>[y8,qq,HE,y_,RY,Eu] | .uT=>[tt,qq]
def fmO:∀i,(fmC i).Y->cH D
 | .alt=>QiZ | .cat=>Qi0 | .rep=>Qi1 | .zb=>λ_=>cX () | .uT=>λ_=>cX ()
def fmL:List Fm:=[.alt,.cat,.rep,.zb,.uT]
set_option maxRecDepth 100000 in
theorem QpX (b:Ok dc) (c:Ok xH):∀i,Ok (fmC i):=
 xl fmL fmC QpW (fn:=fmF) (tab:=Qi4) (iX:=fmO)
  (λi=>match i with
   | .alt=>⟨Aw,Qch⟩ | .cat=>⟨isOk,Qch⟩ | .rep=>⟨Aw,isOk,QiW c⟩ | .zb=>⟨R8,uw,QiX b,Qcj b,okZ [Hh] Tryz.f165 (λ_=>cX ()) (Qb3 b) Qpp,Qcg b⟩ | .uT=>⟨Aw,uw⟩)
  (λi=>match i with
   | .alt=>by kernel_rfl | .cat=>by kernel_rfl | .rep=>by kernel_rfl | .zb=>by kernel_rfl | .uT=>by kernel_rfl)
  (λi=>match i with
   | .alt=>by kernel_rfl | .cat=>by kernel_rfl | .rep=>by kernel_rfl | .zb=>by kernel_rfl | .uT=>by kernel_rfl)
  λi=>match i with
   | .alt=>λy a=>Eq.mp (Y6 y) (QpR y a) | .cat=>λy a=>Eq.mp (Y7 y) (QpS y a) | .rep=>λy a=>Eq.mp (Y8 y) (QpT y a) | .zb=>λy a=>Eq.mp (Y9 y) (QpU y a) | .uT=>λy a=>Eq.mp (Y' y) (QpV y a)
def bT (y:By):List Nd×Int×Int:=if 120<y.length then([],2,0) else xc (aR y)
def zc:bf D:=bZ 19 By (λa _=>YG a) (λ_=>True) (λy=>[.str y]) λy=>.tuple [.list 7 (bT y).1,Qu9 (bT y).2.1,Qu9 (bT y).2.2]
def Zb (y:By) (x:Nat):Prop:=x<=(aR y).length
def QpY (y:zc.Y):cH D:=⟨[],[],[(250,⟨Nat,[21,22],λx=>[(5,.ptr 0 0),(6,Qu9 (place (aR y) x)),(23,Qu9 x)],[],λx=>[(0,.cells [.list 13 (aR y),.grow 5 ((bC (aR y)).take x) 1,Qu9 0,Qu9 0,Qu9 0,Qu9 0,Qu9 0] 115 false),(1,.tok 5 3)],2,Zb y,λx=>(aR y).length-x⟩)],[],1,[]⟩
def Sx (y:List UInt8):Prop:=let a:=aR y;let f:=bC a;let n:=a.length;let o:=ab a;let q:=(bT y).2.1;let r:=(bT y).2.2;let s:=eI a (qP a 20) ((n+2) -0) (nn (bO.mk 0 0 0 0 0)) [];let b:=ga a (qP a 20) ((n+2) -s.1.i) s.1 [bK 3 s.2];let d:=((b.1.i:Nat):Int);let t:=((b.1.opens:Nat):Int);let g:=((b.1.ae:Nat):Int);let h:=az b.1.err 0;let j:=bO.mk d t g b.1.err b.1.wh;let c:=Ps.ak a (nn j) d.toNat 4;let e:=λp:Prop=>aa ([0,0,0,0,0]:List Int) p;let k:Prop:=(bK 4 b.2=(bT y).1/\0=q/\0=r/\True);let l:Prop:=(ag (!h) (aa [b.1.err,b.1.wh] ([]=(bT y).1/\b.1.err=q/\b.1.wh=r/\True)) (k));ag (ax 120 (eO y)) ([]=(bT y).1/\2=q/\0=r/\True) (Iv (y.length<=1000000)/\aa [y] ((∃z:Nat,aa [a] (aa [o] (0=place a z/\0=(z:Int)/\aa [a] ([]=List.take z f/\e ((Iv (Zb y z)))))))/\(∀x:Nat,let m:=aZ (List.take x f) [place a x];(Iv (Zb y x))->ag (ax (x:Int) o) (aC 0 (x:Int)/\ax (x:Int) o/\fits (ab m) 8/\∃z:Nat,aa [a] (aa [o] (an .i64 (place a x) (gt (0,0) a (x:Int).toNat).2=place a z/\an .i64 (x:Int) 1=(z:Int)/\aa [a] (m=List.take z f/\e ((Iv (Zb y z/\(n-z)<(n-x)))))))) (Iv (bj (a,bO.mk 0 0 0 0 0)/\True)/\aa [a] (List.take x f=f/\e (ag h (aa [b.1.err,d] (aa [a] (ag (ax d o) (Iv (bj (a,j)/\0<=d/\d<(n:Int))/\aa ([d,4]:List Int) (aa [a] (aa [f] (aa [d,t,g,b.1.err,b.1.wh] (ag (!(az c.err 0)) (aa [c.err,c.wh] ([]=(bT y).1/\c.err=q/\c.wh=r/\True)) (k)))))) (l)))) (aa [b.1.err] (l))))))))
theorem nM:∀(n:Nat) (l:By),(iI n l).length<=l.length/\∀g∈iI n l,1<=g.2/\g.2<=4
 | 0,l=>⟨by grind [iI],λg h=>by grind [iI]⟩
 | n+1,l=>by
  by_cases h:l=[]
  ·grind [mQ]
  ·have d:=Zbe.2 h;rcases jj l with h0 | ⟨m,a,h1,b,c⟩
   ·rw[mS h h0];obtain⟨i1,i2⟩:=nM n (l.drop 1);grind
   ·rw[o7 h a h1];obtain⟨i1,i2⟩:=nM n (l.drop m);grind
def Ey (y:By):(aR y).length<=y.length:=(nM _ y).1
theorem g_ {i:Nat} (h:i<G.length):place G (i+1)=place G i+(G.getD i (0,0)).2:=by
 grind [place,List.take_succ]
theorem xL (a:∀g∈G,1<=g.2/\g.2<=4):∀i,i<=G.length->0<=place G i/\place G i<=4*i
 | 0,_=>by simp[place]
 | i+1,h=>by
  have:=xL a i ω;grind [g_]
theorem Qp0 (y:By) (p:zc.pre y):Sx y:=by
 have hl:=Ey y;have w:=(nM y.length y).2;have m:=xL (G:=aR y) w;obtain⟨b,_⟩:=vD (G:=aR y) 21 MC (Zaj _) (Zaj _);have v:=G0 y;unfold Sx;simp only[QaU,dq,ez,aj,lO,aO,aU,Zad,Zan,Zao,dA];obtain⟨c,n⟩:∃c,eI (aR y) (qP (aR y) 20) ((aR y).length+2-0) (nn ⟨0,0,0,0,0⟩) []=c:=⟨_,rfl⟩;rw[n];obtain⟨d,o⟩:∃d,ga (aR y) (qP (aR y) 20) ((aR y).length+2-c.1.i) c.1 [bK 3 c.2]=d:=⟨_,rfl⟩;rw[o];have u:qP (aR y) 21 MC=(d.1,bK 4 d.2):=by rw[<-o,<-n];rfl
 rw[u] at b;have r:=b.len;have f:=b.op;have t:=b.gm;simp only at r f t;have f:d.1.opens=0:=f;have B:120<y.length->bT y=([],2,0):=λh=>Zac h
 obtain⟨s,hs⟩:∃s,(if d.1.err=0/\d.1.i<(aR y).length then d.1.ak (aR y) d.1.i 4 else d.1)=s:=⟨_,rfl⟩;have k:¬120<y.length->bT y=if s.err≠0 then([],s.err,s.wh) else(bK 4 d.2,0,0):=λh=>by
  grind [bT,xc]
 have A:=fk (G:=aR y) d.1 d.1.i (e:=4) (by decide);refine⟨λh=>by grind,λh=>⟨ω,⟨0,by rfl,rfl,by simp,Zaj _⟩,λx C=>⟨λl=>?_,λl=>?_⟩⟩⟩
 ·have a:x<(aR y).length:=ω;have b1:=m x ω;have q:=m (x+1) ω;rw[g_ a] at q;have z:=xC (aR y);refine⟨ω,l,by simp;omega,x+1,?_,aV ω ω,?_,by assumption,ω⟩
  ·rw[aV ω ω,g_ a]
  ·rw[ZbE,Zaf ω];have:=KK a 0;grind
 ·have k:=k ω;have OD:bj (aR y,⟨0,0,0,0,0⟩):=⟨by grind,⟨ZaQ _,by grind⟩,⟨ZaQ _,by grind⟩,⟨ZaQ _,by grind⟩,v⟩;have j:bj (aR y,⟨d.1.i,d.1.opens,d.1.ae,d.1.err,d.1.wh⟩):=OD.of b;refine⟨OD,?_,λg=>⟨λhi=>⟨⟨j,ω,hi⟩,λhw=>?_,λhw=>absurd hw A⟩,λhi=>⟨λhw=>absurd g hw,λ_=>?_⟩⟩,λg=>⟨λ_=>?_,λhw=>absurd hw g⟩⟩
  ·grind [List.take_of_length_le,xC]
  ·grind
  ·grind
  ·grind
def Qcl (b:Ok dc) (a:Ok xH):Ok zc:=okZ [G',HH,qq] Tryz.f19 QpY ⟨QhD,QpX b a .alt,uw⟩ Qp0
end
end sx
namespace syn
open Go Go.RowKit cls
def fQ (x:Nd):Bool:=(x.op==2||x.r.length==0)&&(x.op==5||(x.mn==0&&x.mx==0&&!x.lz))&&(x.op==6||x.cap==0)
def bw (x:Nd) (g:Int):Int×Bool:=
 if fQ x=false then(0,false)
 else if x.op=1\/x.op=7\/x.op=8 then(0,x.kids==0)
 else if x.op=2 then(0,x.kids==0&&decide (x.r=aL x.r))
 else if x.op=3\/x.op=4 then(x.kids,decide (2<=x.kids))
 else if x.op=5 then(1,x.kids==1&&decide (0<=x.mn)&&decide (x.mn<=30)&&(x.mx==-1||(decide (x.mn<=x.mx)&&decide (x.mx<=30))))
 else if x.op=6 then(1,x.kids==1&&x.cap==g+1&&decide (x.cap<=4))
 else(0,false)
def ee (f:Nat->Nat->Bool×Nat×Nat):Nat->Nat->Nat->Bool×Nat×Nat
 | 0,a,g=>(true,a,g)
 | k+1,a,g=>if (f a g).1=false then f a g else ee f k (f a g).2.1 (f a g).2.2
def eL (L:List Nd):Nat->Nat->Nat->Bool×Nat×Nat
 | 0,a,g=>(false,a,g)
 | n+1,a,g=>if L.length<=a then(false,a,g) else
  if (bw (L.getD a (nd 0)) g).2=false then(false,a,g) else ee (eL L n) (bw (L.getD a (nd 0)) g).1.toNat (a+1) (if (L.getD a (nd 0)).op=6 then g+1 else g)
section
variable {Z:Nat->Option Nat}
def nN (x:Nd):Option Int:=
 let bare:=λ(r:List Rg) (mn mx:Int) (lz:Bool) (cap kids:Int)=>decide (x.kids=kids)&&decide (x.mn=mn)&&decide (x.mx=mx)&&decide (x.lz=lz)&&decide (x.cap=cap)&&decide (x.r.length=r.length)
 if x.op=1\/x.op=7\/x.op=8 then(if bare [] 0 0 false 0 0 then some 0 else none)
 else if x.op=2 then(if x.r=aL x.r then(if bare x.r 0 0 false 0 0 then some 0 else none) else none)
 else if x.op=3\/x.op=4 then(if x.kids<2 then none else if bare [] 0 0 false 0 x.kids then some x.kids else none)
 else if x.op=5 then(if x.mn<0\/30<x.mn\/30<x.mx\/x.mx< -1\/(0<=x.mx/\x.mx<x.mn) then none else if bare [] x.mn x.mx x.lz 0 1 then some 1 else none)
 else if x.op=6 then(if x.cap<1\/4<x.cap then none else if bare [] 0 0 false x.cap 1 then some 1 else none)
 else none
def mR (f:Nat->Option Nat):Nat->Nat->Option Nat
 | 0,a=>some a
 | k+1,a=>match f a with
  | none=>none
  | some b=>mR f k b
def gi (L:List Nd):Nat->Nat->Option Nat
 | 0,_=>none
 | n+1,a=>if L.length<=a then none else match nN (L.getD a (nd 0)) with
  | none=>none
  | some k=>mR (gi L n) k.toNat (a+1)
def gK:List Nd->Nat->Option Nat
 | [],g=>some g
 | x::l,g=>if x.op=6 then(if x.cap=(g:Int)+1 then gK l (g+1) else none) else gK l g
def cR (L:List Nd):Bool:=decide (1<=L.length)&&decide (L.length<=480)&&(eL L 241 0 0).1&&(eL L 241 0 0).2.1==L.length
def HO (L:List Nd):Bool:=decide (1<=L.length)&&decide (L.length<=480)&&(gi L 241 0==some L.length)&&(gK L 0).isSome
theorem Nb (x:Nd):fQ x↔((x.op=2\/x.r=[])/\(x.op=5\/(x.mn=0/\x.mx=0/\x.lz=false))/\(x.op=6\/x.cap=0)):=by
 grind [fQ]
theorem Nc (x:Nd) (g:Nat):((bw x g).2↔(∃k,nN x=some k)/\(x.op=6->x.cap=(g:Int)+1))/\((bw x g).2->nN x=some (bw x g).1):=by
 grind [bw,nN,fQ]
theorem q_:∀(l m:List Nd) (g:Nat),gK (l++m) g=(gK l g).bind (gK m)
 | [],m,g=>rfl
 | x::l,m,g=>by
  rw[Za1,gK,gK];split
  ·split
   ·exact q_ l m _
   ·rfl
  ·exact q_ l m g
def gA (L:List Nd) (a b g:Nat):Option Nat:=gK ((L.drop a).take (b-a)) g
def su (L:List Nd) (a g:Nat):gA L a a g=some g:=by simp[gA,gK]
theorem lS (L:List Nd) {a b c:Nat} (g:Nat) (h1:a<=b) (d:b<=c):gA L a c g=(gA L a b g).bind λg=>gA L b c g:=by
 unfold gA;rw[<-q_];congr 1;rw[show c-a=(b-a)+(c-b) by omega,ZdW,ZbZ,show a+(b-a)=b by omega]
def Ez (L:List Nd) {a:Nat} (g:Nat) (h:a<L.length):gA L a (a+1) g=if (L.getD a (nd 0)).op=6 then(if (L.getD a (nd 0)).cap=(g:Int)+1 then some (g+1) else none) else some g:=by
 unfold gA;have e:(L.drop a).take (a+1-a)=[L.getD a (nd 0)]:=by
  rw[show a+1-a=1 by omega,Zaq h,Zag,Zaf h];rfl
 rw[e];rfl
theorem oJ (L:List Nd) (e:∀a b,Z a=some b->a<b/\b<=L.length):∀(k a b:Nat),a<=L.length->mR Z k a=some b->a<=b/\b<=L.length
 | 0,a,b,d,h=>by cases(show some a=some b from h);exact⟨Zah _,d⟩
 | k+1,a,b,d,h=>by
  rw[mR] at h;split at h
  ·cases h
  ·rename_i c g
   have h1:=e a c g;have i:=oJ L e k c b h1.2 h;omega
theorem uL (L:List Nd):∀(n a b:Nat),gi L n a=some b->a<b/\b<=L.length
 | 0,a,b,h=>nomatch h
 | n+1,a,b,h=>by
  rw[gi] at h;split at h
  ·cases h
  ·split at h
   ·cases h
   ·rename_i hl _ _ _
    have:=oJ L (uL L n) _ _ _ ω h;omega
def Qi5 (L:List Nd) (f:Nat->Nat->Bool×Nat×Nat) (r:Nat->Option Nat):Prop:=∀a g,
 ((f a g).1->r a=some (f a g).2.1/\gA L a (f a g).2.1 g=some (f a g).2.2)/\(∀b c,r a=some b->gA L a b g=some c->f a g=(true,b,c))
theorem sv (L:List Nd) {f:Nat->Nat->Bool×Nat×Nat} (h:Qi5 L f Z) (l:∀a b,Z a=some b->a<b/\b<=L.length):∀(k a g:Nat),a<=L.length->
  ((ee f k a g).1->mR Z k a=some (ee f k a g).2.1/\gA L a (ee f k a g).2.1 g=some (ee f k a g).2.2)/\(∀b d,mR Z k a=some b->gA L a b g=some d->ee f k a g=(true,b,d))
 | 0,a,g,t=>⟨λ_=>⟨rfl,su L a g⟩,λb d h1 i=>by
   cases(show some a=some b from h1);rw[su] at i;cases i;rfl⟩
 | k+1,a,g,t=>by
  obtain⟨q,s⟩:=h a g;rw[ee,mR];constructor
  ·intro h1;by_cases m:(f a g).1=false
   ·grind
   ·rw[Zaa m] at h1 ⊢;obtain⟨u,v⟩:=q (by grind);have j:=l _ _ u;obtain⟨p1,p2⟩:=(sv L h l k (f a g).2.1 (f a g).2.2 j.2).1 h1;grind [oJ,lS]
  ·intro b d h1 i;split at h1
   ·cases h1
   ·rename_i c m
    have j:=l _ _ m;have n:=oJ L l _ _ _ j.2 h1;rw[lS L g (Zcx j.1) n.1] at i;obtain⟨g1,o,p⟩:=ZdC.1 i;have e:=s c g1 m o;rw[e];simp only[Zb0,Za0];exact(sv L h l k c g1 j.2).2 b d h1 p
theorem KO (L:List Nd):∀n,Qi5 L (eL L n) (gi L n)
 | 0=>λa g=>⟨λh=>(by cases h),λb l h=>(by cases h)⟩
 | n+1=>λa g=>by
  have o:=KO L n;rw[eL,gi];by_cases hl:L.length<=a
  ·grind
  rw[Zaa hl,Zaa hl];obtain⟨hs,j⟩:=Nc (L.getD a (nd 0)) g;have c:=Ez L g (show a<L.length by omega);generalize L.getD a (nd 0)=x at hs j c ⊢;constructor
  ·intro h1;by_cases r:(bw x g).2=false
   ·grind
   ·rw[Zaa r] at h1 ⊢;have d:(bw x g).2:=by grind
    rw[j d];obtain⟨p1,p2⟩:=(sv L o (uL L n) _ _ _ ω).1 h1;refine⟨p1,?_⟩;have f:=oJ L (uL L n) _ _ _ ω p1;rw[lS L g (ZcR a) f.1,c];grind
  ·intro b l h1 m;split at h1
   ·cases h1
   ·rename_i k hk
    have f:=oJ L (uL L n) _ _ _ ω h1;rw[lS L g (ZcR a) f.1,c] at m;obtain⟨g1,s,p⟩:=ZdC.1 m;have q:x.op=6->x.cap=(g:Int)+1:=λt=>by
     grind
    have d:=hs.2 ⟨⟨k,hk⟩,q⟩;have e:=j d;rw[hk] at e;cases e;rw[Zaa (by grind)];have i:(if x.op=6 then g+1 else g)=g1:=by
     grind
    rw[i];exact(sv L o (uL L n) _ _ _ ω).2 b l h1 p
theorem Nf (L:List Nd):HO L=cR L:=by
 obtain⟨a,b⟩:=KO L 241 0 0;grind [HO,cR,Option.isSome_iff_exists,gA]
end
end syn
set_option maxRecDepth 100000
set_option maxHeartbeats 4000000
namespace sx
noncomputable section
open Go Go.RowKit cls syn
def QeM (v:AV D.E):C Nd:=av (asAgg v) λcs=>uK D 7 cs
def Qi6 (args:List (AV D.E)):C Nd:=match args with
 | [a]=>QeM a
 | _=>.fail
def Qi7 (args:List (AV D.E)):C (Nd×Int):=match args with
 | [a,b]=>av (QeM a) λx=>aI (cT b) λ_ n=>.ret (x,n)
 | _=>.fail
def iK (x:Nd):Prop:=x.r.length<=1000000
def Sy:bf D:=bZ 139 Nd (λa _=>Qi6 a) (λ_=>True) (λy=>[.agg (D.aX 7 y)]) λy=>.bool (fQ y)
def Sz:bf D:=bZ 110 (Nd×Int) (λa _=>Qi7 a) (λy=>iK y.1/\0<=y.2/\y.2<=1000000) (λy=>[.agg (D.aX 7 y.1),Qu9 y.2]) λy=>.tuple [Qu9 (bw y.1 y.2).1,.bool (bw y.1 y.2).2]
structure WkS where
 l:List Nd
 at_:Int
 gr:Int
abbrev Zd:=WkS×Int
def wkO (l:List Nd) (a g:Int):List (Nat×AO D.E):=[(0,.cells [.list 7 l,.int .i64 a,.int .i64 g] 189 false)]
def Qp3 (args:List (AV D.E)) (s:St D.E):C Zd:=match args with
 | [p,d]=>match p with
  | .ptr b _=>av (cE (s.h.get b)) λo=>match o with
   | .cells cs _ _=>match cs with
    | [l,a,g]=>av (rowsOf D s 7 l) λl=>aI (cT a) λ_ a=>aI (cT g) λ_ g=>aI (cT d) λ_ d=>.ret (⟨l,a,g⟩,d)
    | _=>.fail
   | _=>.fail
  | _=>.fail
 | _=>.fail
def WkP (y:Zd):Prop:=(y.1.l.length<=1000000/\∀x∈y.1.l,iK x)/\(0<=y.1.at_/\y.1.at_<=y.1.l.length)/\(0<=y.1.gr/\y.1.gr<=y.1.at_)/\0<=y.2/\y.2<=241
def nO (y:Zd):Bool×Nat×Nat:=eL y.1.l (241-y.2.toNat) y.1.at_.toNat y.1.gr.toNat
def xM:bf D:=⟨78,Zd,Qp3,WkP,λy=>[.ptr 0 0,Qu9 y.2],λy=>wkO y.1.l y.1.at_ y.1.gr,λy=>.bool (nO y).1,λy=>wkO y.1.l ((nO y).2.1:Nat) ((nO y).2.2:Nat),1,1⟩
def Ze (y:Zd) (x:Int×Int×Int):Prop:=WkP (⟨y.1.l,x.1,x.2.1⟩,y.2)/\y.1.at_<y.1.l.length/\ee (eL y.1.l (240-y.2.toNat)) x.2.2.toNat x.1.toNat x.2.1.toNat=nO y/\(0<x.2.2->y.2<=240)/\x.2.2<=9223372036854775807
def QeN (y:Zd):Nd:=y.1.l.getD y.1.at_.toNat (nd 0)
def Ng (y:Zd):Int:=if (QeN y).op=6 then y.1.gr+1 else y.1.gr
def Nh (y:Zd):Prop:=y.1.at_<y.1.l.length/\y.2<=240/\(bw (QeN y) y.1.gr).2
def Qp4 (y:xM.Y):cH D:=⟨[(5,.fact 6)],[],[(1020,⟨Int×Int×Int,[0,1],λx=>[(6,Qu9 x.2.2)],[],λx=>wkO y.1.l x.1 x.2.1,1,Ze y,λx=>x.2.2.toNat⟩)],[(127,⟨Unit,[0,1,6],λ_=>[],[],λ_=>wkO y.1.l (y.1.at_+1) (Ng y),1,λ_=>Nh y,λ_=>0⟩)],1,[]⟩
def Qi8 (y:xM.Y):Prop:=vc [xM.under (λy=>241-y.2.toNat) (241-y.2.toNat),Sz] Tryz.f78 xM Qp4 y
def Zf (args:List (AV D.E)) (s:St D.E):C (List Nd):=match args with
 | [a]=>av (rowsOf D s 7 a) λl=>.ret (l:List Nd)
 | _=>.fail
def cn (y:List Nd):Prop:=∀x∈y,iK x
def HQ:bf D:=bZ 44 (List Nd) Zf cn (λy=>[.list 7 y]) λy=>.bool (cR y)
end
end sx
end Go.Proofs.YtadfknojfbmjgaaGreat
