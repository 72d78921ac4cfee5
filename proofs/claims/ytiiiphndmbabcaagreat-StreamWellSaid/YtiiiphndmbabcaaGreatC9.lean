/- StreamWell: a part of the proof. -/
import Derived.Test.YtiiiphndmbabcaaGreatC8
import Derived.Test.YtiiiphndmbabcaaGreatC3
import Derived.Test.YtiiiphndmbabcaaGreatC7
import Derived.Test.YtiiiphndmbabcaaGreatC4
import Derived.Test.YtiiiphndmbabcaaGreatC2
set_option linter.all false
namespace Go.Proofs.YtiiiphndmbabcaaGreat
open Go.Proofs.Tryz
set_option maxRecDepth 100000
set_option maxHeartbeats 4000000
namespace sx
noncomputable section
open Go Go.RowKit cls syn
def QbF (y:jU):Prop:=aa [ah y.s.r] (ey y (True))
abbrev RA0 (v:mc) (p:Prop):Prop:=aa [v.h] (aa [v.m] (aa [v.L] p))
abbrev RAB (v:iX) (p:Prop):Prop:=aa [v.st.aS] (aa [v.st.aS] (aa [v.st.size] (aa [v.st.size] p)))
def Ve (y:iX):Prop:=let B:=ah y.ru.s.r;let q1:=az y.st.pos y.st.bd;let i:=!(seq y.ru.s.c []);let j:=cQ .i64 y.st.pos y.st.bd;let C:=az 500 y.st.size;let H:=az 1099511627776 y.st.pos;let D:=aD .i64 y.st.size 1;let E:=aC (ah y.st.aS) 0;let w:=ja.mk (fZ.mk y.ru.p y.aT.m y.aT.L) y.aT.h;let x:=ja.mk (fZ.mk y.ru.q y.aM.m y.aM.L) y.aM.h;let e:=ja.mk (fZ.mk y.ru.p y.ay.m y.ay.L) y.ay.h;let k:=gg (NK.mk y.st.aS B y.st.size);let l:=aD .i64 D 0;let z:=!(kE y.st.bO (az 200 j));let n:=!(aC y.st.aZ (cQ .i64 (cQ .i64 y.st.bd y.st.size) 1));let o:=aD .i64 D j;let A:=!(lx (e,j));let f:=λp:Prop=>RA0 y.ay (RA0 y.ay (RA2 y.ru.q (RA0 y.aM p)));let t:=λp:Prop=>RA0 y.aM (RA0 y.ay (RA0 y.ay (RA0 y.aM p)));let g:=λp:Prop=>RA0 y.ay (RA0 y.ay p);let u:=λp:Prop=>RAR y.st.aS B y.st.size p;let v:=λp:Prop=>RA0 y.aM (RA0 y.ay (RA0 y.ay (RA2 y.ru.q (RA0 y.aM (RA0 y.aM p)))));let a:Prop:=(false=eL y/\ey y.ru (True));let I:=ak (aC y.st.aZ 0) (ak (aC y.st.size 0) (ak E (Iv True/\RA0 y.aT (ju y.aT=eL y/\ey y.ru (True))) (a)) (a)) (a);let b:Prop:=(ak (!y.st.eI) I (ak (!i) (a) (ak y.st.bO (a) (ak (az y.st.size 0) (a) (ak C (a) (ak (az y.st.aZ 0) (a) (ak n (a) (Iv True/\ey y.ru (Iv (y.st.aS.length<=1000)/\u (ak k (Iv (Ez y.ru)/\ey y.ru (Iv (Cs w)/\RA2 y.ru.p (RA0 y.aT (RAP l (RAB y (RA0 y.aT (RA0 y.aT (RAQ y.st.size y.st.size (lx (w,l)=eL y/\ey y.ru (True)))))))))) (RAB y (a))))))))))));let d:Prop:=(ak (!y.st.eI) I (ak (!i) (a) (ak y.st.bO (a) (ak (az y.st.size 0) (a) (ak C (a) (ak (az y.st.aZ 0) (a) (ak n (a) (Iv True/\ey y.ru (Iv (y.st.aS.length<=1000)/\u (ak k (Iv (Ez y.ru)/\ey y.ru (Iv (Cs w)/\RA2 y.ru.p (RA0 y.aT (RAP o (RAB y (RA0 y.aT (RA0 y.aT (RAQ y.st.size y.st.size (lx (w,o)=eL y/\ey y.ru (True)))))))))) (RAB y (a))))))))))));let F:Prop:=(RA0 y.aM (ak (!(ju y.aM)) (a) (b)));let G:Prop:=(RA0 y.aM (ak (!(ju y.aM)) (a) (d)));ak (az y.st.bd 0) (a) (ak q1 (a) (ak H (a) (ak z (a) (ak y.st.bO (Iv (Nj y.ru)/\ey y.ru (Iv (Ez y.ru)/\ey y.ru (Iv (Cs e)/\RA2 y.ru.p (RA0 y.ay (RAE (ak (!(lx (e,0))) (g (a)) (ak i (Iv (Cs x)/\aa [y.ru.q.ae] (aa [y.ru.q.aj] (aa [y.aM.h] (aa [y.aM.m] (aa [y.aM.L] (aa ([0]:List Int) (ak (!(lx (x,0))) (f (a)) (ak (!i) (Iv True/\v (ak (!(ju y.aM)) (a) (b))) (f (b)))))))))) (ak (!i) (Iv True/\t (ak (!(ju y.aM)) (a) (b))) (g (b)))))))))) (Iv (Nj y.ru)/\ey y.ru (Iv (Ez y.ru)/\ey y.ru (Iv (Cs e)/\RA2 y.ru.p (RA0 y.ay (RAP j (ak A (g (a)) (ak i (Iv (Cs x)/\aa [y.ru.q.ae] (aa [y.ru.q.aj] (aa [y.aM.h] (aa [y.aM.m] (aa [y.aM.L] (aa [j] (ak (!(lx (x,j))) (f (a)) (ak (!i) (Iv True/\v (ak (!(ju y.aM)) (a) (d))) (f (d)))))))))) (ak (!i) (Iv True/\t (ak (!(ju y.aM)) (a) (d))) (g (d))))))))))))))
def QjT:Ok Η:=okZ (V:=QbF) [] f68 (λ_=>dr ()) trivial λ(y:jU) _=>by
 unfold QbF;simp only[eN,fN]
theorem Vf (a b:Int):aI a b=!(az b a):=by
 grind
theorem Qr1 (y:iX) (h:Iz y):Ve y:=by
 have⟨h1,b,e,a,i⟩:=h;have l:Ez y.ru:=h1.1.pg;have d:eL y=_:=aJ _;unfold Ve;simp only[fK,fN,fB];unfold Of Vc EU wsT Ct sD at d;unfold sD at h1 b a;have g:iW y.ru=!(seq y.ru.s.c []):=rfl;rw[g] at d a;generalize eL y=W at*
 subst d;have j:=h1;have k:=b;have m:Nj y.ru:=e;have f:=a;clear h1 b e a
 with_reducible repeat' first | assumption | apply And.intro | intro _
 all_goals first | (exact f (by assumption)) | (simp_all;done) | skip
 all_goals simp_all [kE,Vf]
def QbG (a:Ok cK):Ok Vd:=okZ [Nk,Nl,Η,U8,Va,NN] f24 (λ_=>dr ()) ⟨Qbh,Qbi,QjT,QjN a,QjP,QjQ⟩ Qr1
def Μ (y:B'):Int->Bool:=KG y.p.ae (lF y.p.ae (ZB y)) y.p.ae.length λk=>if k=ZB y then true else false
def Wf (y:B') (s:List Bool) (k:Int):Bool:=Μ y k&&!(s.getD k.toNat false)
def Og (y:fZ) (k:Nat):B':=⟨y.p,k,y.L.getD k fl,y.m⟩
def dwI (y:fZ) (k:Nat) (x:List Bool×Nat):Prop:=k<y.L.length/\f_ y k/\x.2<=(y.L.getD k fl).aL.length/\x.1.length=y.p.ae.length/\uq y k=We y.m ((y.L.getD k fl).aL.drop x.2) (Wf (Og y k) x.1)
def mcO (y:fZ):Nat×AO D.E:=(1,.cells [.int .i64 y.m,.list 2 y.L] 31 false)
def Vg:bk D:={ Ix with f:=160 }
def Qr2 (y:Vg.Y):cU D:=⟨[],[10],[(58,⟨Nat,[],λk=>[(2,.ptr 0 0),(3,.ptr 1 0),(5,QtJ k)],[],λ_=>[Ob (fZ.p y),mcO y],2,λk=>k<=(fZ.L y).length/\f_ y k,λk=>(fZ.L y).length-k⟩)],[],1,
 [(59710,⟨Nat,λk=>⟨List Bool×Nat,[5,7],λx=>[(2,.ptr 0 0),(3,.ptr 1 0),(6,.ptr 2 0),(8,.own 3 1 (ah x.1)),(9,QtJ x.2)],[],λx=>[Ob (fZ.p y),mcO y,(2,.cells (D.ba 2 ((fZ.L y).getD k fl)) 106 false),(3,.arr 17 x.1 4 false)],4,dwI y k,λx=>((fZ.L y).getD k fl).aL.length-x.2⟩,none⟩)]⟩
def Ν:bk D:={ U7 with f:=98 }
def QjU:bk D:={ U8 with f:=55 }
def QjV:bk D:={ Va with f:=56 }
def Wg (y:jU):List (Nat×AO D.E):=[ruO 0 y.s ⟨y.p.ae,y.p.aj,y.q.ae,y.q.aj,0,0⟩]
def Qd8 (v:AV D.E) (s:St D.E):C jU:=match v with
 | .ptr b _=>aA (cN (s.h.get b)) λo=>match o with
  | .cells cs _ _=>match cs with
   | [r,c,p,q,a,b,_]=>aA (aW D s 3 r) λr=>aA (gR c) λc=>aA (aW D s 8 p) λp=>aA (aW D s 5 q) λq=>aA (aW D s 8 a) λa=>aA (aW D s 5 b) λb=>.ret ⟨⟨r,c⟩,⟨p,q⟩,⟨a,b⟩,[]⟩
   | _=>.fail
  | _=>.fail
 | _=>.fail
structure DnY where
 r:jU
 l:List b5
 z:Int
variable {y:fZ} {k:Nat} {i:Int} {s:List Bool}
def ou (y:DnY):NK:=⟨y.l,ah y.r.p.aj,y.z⟩
def Vh:bk D:=⟨57,DnY,λa s=>match a with
 | [r,l,z]=>aA (Qd8 r s) λr=>aA (aW D s 2 l) λl=>aQ (da z) λ_ z=>.ret ⟨r,(l:List b5),z⟩
 | _=>.fail,λy=>y.l.length<=1000,λy=>[.ptr 0 0,.list 2 y.l,QtJ y.z],λy=>Wg y.r,λy=>.bool (gg (ou y)),λy=>Wg y.r,1,1⟩
def Qr5 (y:Vh.Y):cU D:=⟨[],[],[(58,⟨Nat,[0,1,2],λk=>[(7,QtJ k)],[],λ_=>Wg (DnY.r y),1,λk=>k<=(DnY.l y).length/\ly (ou y) k,λk=>(DnY.l y).length-k⟩)],[],11,[]⟩
def QjW (r x:AV D.E) (s:St D.E):C iX:=aA (Qd8 r s) λr=>aA (asAgg x) λcs=>match cs with
  | [p,l,g,o,e,z,n,h1,p1,h,b,p2,i,f,p3,j]=>aQ (da p) λ_ p=>aQ (da l) λ_ l=>aQ (AZ g) λg _=>aQ (AZ o) λo _=>aQ (da e) λ_ e=>aQ (da z) λ_ z=>aA (aW D s 2 n) λn=>aA (yh h1 p1 h s) λc=>aA (yh b p2 i s) λa=>aA (yh f p3 j s) λd=>.ret ⟨r,⟨p,l,g,o,e,z,n⟩,c,a,d⟩
  | _=>.fail
def IA (y:iX):Prop:=Iz y/\y.ru.p.aj.length=y.ru.s.r.length
def Vi:bk D:=⟨20,iX,λa s=>match a with
 | [r,x]=>QjW r x s
 | _=>.fail,IA,λy=>[.ptr 0 0,wsA y],λy=>Wg y.ru,λy=>.bool (eL y),λy=>Wg y.ru,1,1⟩
def wsO (y:iX):Nat×AO D.E:=(1,.cells ([.int .i64 y.st.pos,.int .i64 y.st.bd,.bool y.st.bO,.bool y.st.eI,.int .i64 y.st.aZ,.int .i64 y.st.size,.list 2 y.st.aS]++ET y.aT++ET y.ay++ET y.aM) 35 false)
def wsE (y:iX):Prop:= -9223372036854775808<=y.st.aZ/\y.st.aZ<=9223372036854775807
def QjX (y:iX) (p:Prop):iF D:=⟨Unit,[0],λ_=>[(3,.ptr 1 0),(5,.int .i64 (Ct y))],[],λ_=>Wg y.ru++[wsO y],2,λ_=>p,λ_=>0⟩
def Qr7 (y:Vi.Y):cU D:=⟨[(0,.fact 1)],[],[],[(15,QjX y (Of y/\wsE y)),(31,QjX y (Of y/\Vc y/\wsE y))],1,[]⟩
def Vj (y:fZ):Prop:=let i:=y.L.length;let q1:=ah y.p.ae;let C:=ah y.p.aj;let E:=az 1099511627776 y.m;let F:=!(aC (ah y.L) C);let B:=λp:Prop=>RAQ y.m y.L (RA2 y.p p);let G:=b5.mk false 0 0 0 0 0 0 0 0 0 0 [];Iv (qP y.p)/\RA2 y.p (ak (az y.m 0) (false=gC y/\True) (ak E (false=gC y/\True) (ak F (false=gC y/\True) ((∃z:Nat,0=(z:Int)/\B ((Iv (z<=i/\f_ y z))))/\(∀x:Nat,let D:=az (x:Int) (ah y.L);let w:=lF y.p.ae (uU (y.p,(x:Int)));let o:=gt 0 y.p.aj (x:Int).toNat;let b:=gt G y.L (x:Int).toNat;let r:=!(fp (bA.mk 0 b.c0 b.c1 b.c2 b.c3 b.c4 b.c5 b.c6 b.c7 b.c8 b.c9) y.m);let s:=!((aC b.c0 (-1))&&((aC b.c1 (-1))&&((aC b.c2 (-1))&&((aC b.c3 (-1))&&((aC b.c4 (-1))&&((aC b.c5 (-1))&&((aC b.c6 (-1))&&((aC b.c7 (-1))&&((aC b.c8 (-1))&&(aC b.c9 (-1)))))))))));let q:=λp:Prop=>aa [(x:Int)] (aa [w] p);let n:Prop:=(Iv (ο (y.p,(x:Int)))/\aa [y.p.ae] (aa [y.p.aj] (aa [(x:Int)] (aI 0 q1/\aI q1 q1/\bF q1 1/\∃z:Nat,let c:=List.getD y.L z G;let j:=c.aL.length;let A:=λp:Prop=>aa [c.aL] (aa [y.m] (aa [y.L] (aa [y.p.ae] (aa [y.p.aj] p))));(∃e:(List Bool)×Nat,q (ah (mf q1 false)=ah e.1/\0=(e.2:Int)/\mf q1 false=e.1/\b.done=c.done/\EwC b c (b.aL=c.aL/\B ((Iv (dwI y z e))))))/\(∀g:(List Bool)×Nat,let f:=(g.2:Int);let k:=az f (ah c.aL);let a:=gt (bA.mk 0 0 0 0 0 0 0 0 0 0 0) c.aL f.toNat;let d:=cQ .i64 a.pc 1;let t:=gt false g.1 a.pc.toNat;let h:=gt false w d.toNat;let u:=!(aC (gt (aV.mk 0 0 0 []) y.p.ae d.toNat).op 1);let v:=!(fp (bA.mk 0 a.c0 a.c1 a.c2 a.c3 a.c4 a.c5 a.c6 a.c7 a.c8 a.c9) y.m);let l:Prop:=(aI 0 a.pc/\az a.pc (ah g.1)/\∃e:(List Bool)×Nat,q (ah g.1=ah e.1/\aD .i64 f 1=(e.2:Int)/\cO g.1 a.pc.toNat true=e.1/\aa [c.done] (Gy c (A ((Iv (dwI y z e/\(j-e.2)<(j-g.2))))))));(Iv (dwI y z g))->ak k (aI 0 f/\k/\ak (az a.pc 0) (false=gC y/\True) (ak (aI q1 a.pc) (false=gC y/\True) (aI 0 a.pc/\az a.pc (ah g.1)/\ak t (false=gC y/\True) (Iv True/\RwH a (aa [y.m] (ak v (false=gC y/\True) (aI 0 (x:Int)/\az (x:Int) C/\ak (!(aC a.pc o)) (ak (aC a.pc 0) (aa [a.pc] (aa [y.p.aj] (aa [o,a.pc] (false=gC y/\True)))) (aI 0 d/\az d (ah w)/\ak (!h) (aa [a.pc] (aa [y.p.aj] (aa [o,a.pc,a.pc] (aa [h] (false=gC y/\True))))) (aI 0 d/\az d q1/\aa [a.pc] (aa [y.p.aj] (aa [o,a.pc,a.pc] (aa [h] (aa [y.p.ae] (aa [a.pc,(gt (aV.mk 0 0 0 []) y.p.ae d.toNat).op] (ak u (false=gC y/\True) (l)))))))))) (aa [a.pc] (aa [y.p.aj] (aa [o] (l))))))))))) (∃e:Nat,aD .i64 (x:Int) 1=(e:Int)/\B ((Iv ((e<=i/\f_ y e)/\(i-e)<(i-x))))))))));(Iv (x<=i/\f_ y x))->ak D (aI 0 (x:Int)/\D/\Iv True/\Gy b (aa [y.m] (ak r (Gy b (aa [y.m] (false=gC y/\True))) (ak (!b.done) (Iv True/\Gy b (aa [y.m] (aa [b.done] (Gy b (Gy b (ak s (false=gC y/\True) (n))))))) (Gy b (aa [y.m] (aa [b.done] (n)))))))) (true=gC y/\True))))))
def QbI (y:ja):Prop:=Iv (pz y.v)/\RA2 y.v.p (RAQ y.v.m y.v.L (ak (gC y.v) (ak (aC (ah y.h) 0) (true=ES y/\True) (Iv True/\aa [y.h] (h_ y.h=ES y/\True))) (false=ES y/\True)))
def Vk (y:DnY):Prop:=let d:=y.l.length;let q1:=ah y.l;let g:=!(seq y.r.s.c []);let j:=!(aC q1 (ah y.r.p.aj));let i:=λp:Prop=>RAQ y.l y.z p;let h:=λp:Prop=>RA4 y.r.s p;let b:Prop:=(h (iA y.r (RAP g (True))));ak j (false=gg (ou y)/\b) ((∃z:Nat,i (0=(z:Int)/\h (iA y.r (RAP g ((Iv (z<=d/\ly (ou y) z)))))))/\(∀x:Nat,let a:=gt (b5.mk false 0 0 0 0 0 0 0 0 0 0 []) y.l (x:Int).toNat;let k:=az 0 (ah a.aL);let m:=!((aC a.c0 (-1))&&((aC a.c1 (-1))&&((aC a.c2 (-1))&&((aC a.c3 (-1))&&((aC a.c4 (-1))&&((aC a.c5 (-1))&&((aC a.c6 (-1))&&((aC a.c7 (-1))&&((aC a.c8 (-1))&&(aC a.c9 (-1)))))))))));let f:=λp:Prop=>RAQ a.aL a.done p;let e:Prop:=(aI 0 (x:Int)/\az (x:Int) q1/\ak (az a.c0 (-1)) (false=gg (ou y)/\b) (aI 0 (x:Int)/\az (x:Int) q1/\ak (az y.z a.c0) (false=gg (ou y)/\b) (aI 0 (x:Int)/\az (x:Int) q1/\ak (az a.c1 (-1)) (false=gg (ou y)/\b) (aI 0 (x:Int)/\az (x:Int) q1/\ak (az y.z a.c1) (false=gg (ou y)/\b) (aI 0 (x:Int)/\az (x:Int) q1/\ak (az a.c2 (-1)) (false=gg (ou y)/\b) (aI 0 (x:Int)/\az (x:Int) q1/\ak (az y.z a.c2) (false=gg (ou y)/\b) (aI 0 (x:Int)/\az (x:Int) q1/\ak (az a.c3 (-1)) (false=gg (ou y)/\b) (aI 0 (x:Int)/\az (x:Int) q1/\ak (az y.z a.c3) (false=gg (ou y)/\b) (aI 0 (x:Int)/\az (x:Int) q1/\ak (az a.c4 (-1)) (false=gg (ou y)/\b) (aI 0 (x:Int)/\az (x:Int) q1/\ak (az y.z a.c4) (false=gg (ou y)/\b) (aI 0 (x:Int)/\az (x:Int) q1/\ak (az a.c5 (-1)) (false=gg (ou y)/\b) (aI 0 (x:Int)/\az (x:Int) q1/\ak (az y.z a.c5) (false=gg (ou y)/\b) (aI 0 (x:Int)/\az (x:Int) q1/\ak (az a.c6 (-1)) (false=gg (ou y)/\b) (aI 0 (x:Int)/\az (x:Int) q1/\ak (az y.z a.c6) (false=gg (ou y)/\b) (aI 0 (x:Int)/\az (x:Int) q1/\ak (az a.c7 (-1)) (false=gg (ou y)/\b) (aI 0 (x:Int)/\az (x:Int) q1/\ak (az y.z a.c7) (false=gg (ou y)/\b) (aI 0 (x:Int)/\az (x:Int) q1/\ak (az a.c8 (-1)) (false=gg (ou y)/\b) (aI 0 (x:Int)/\az (x:Int) q1/\ak (az y.z a.c8) (false=gg (ou y)/\b) (aI 0 (x:Int)/\az (x:Int) q1/\ak (az a.c9 (-1)) (false=gg (ou y)/\b) (aI 0 (x:Int)/\az (x:Int) q1/\ak (az y.z a.c9) (false=gg (ou y)/\b) (∃z:Nat,i (aD .i64 (x:Int) 1=(z:Int)/\h (iA y.r (RAP g ((Iv ((z<=d/\ly (ou y) z)/\(d-z)<(d-x))))))))))))))))))))))))))));(Iv (x<=d/\ly (ou y) x))->ak (az (x:Int) q1) (aI 0 (x:Int)/\az (x:Int) q1/\ak k (RAP a.aL (false=gg (ou y)/\b)) (aI 0 (x:Int)/\az (x:Int) q1/\ak (!a.done) (aI 0 (x:Int)/\az (x:Int) q1/\Iv True/\f (Gy a (Gy a (ak m (false=gg (ou y)/\b) (e))))) (f (e)))) (true=gg (ou y)/\b)))
abbrev RA3 (v:uP) (p:Prop):Prop:=aa [v.pos] (aa [v.bd] (aa [v.bO] (aa [v.eI] (aa [v.aZ] (aa [v.size] (aa [v.aS] p))))))
def Vl (y:iX):Prop:=let v:=az y.st.pos y.st.bd;let q1:=!(seq y.ru.s.c []);let l:=cQ .i64 y.st.pos y.st.bd;let A:=az 500 y.st.size;let B:=az 1099511627776 y.st.pos;let C:=aC (ah y.st.aS) 0;let n:=ja.mk (fZ.mk y.ru.p y.aT.m y.aT.L) y.aT.h;let o:=ja.mk (fZ.mk y.ru.q y.aM.m y.aM.L) y.aM.h;let t:=ja.mk (fZ.mk y.ru.p y.ay.m y.ay.L) y.ay.h;let u:=aD .i64 (aD .i64 y.st.size 1) (Ct y);let g:=!(aC (aD .i64 (aD .i64 y.st.aZ y.st.size) 1) y.st.bd);let i:=!(lx (t,Ct y));let j:=!(lx (o,Ct y));let k:=gg (ou (DnY.mk (jU.mk y.ru.s y.ru.p y.ru.q []) y.st.aS y.st.size));let a:Prop:=(RA4 y.ru.s (iA y.ru (aa [q1] (True))));let d:Prop:=(RA3 y.st (RA0 y.aT (RA0 y.ay (RA0 y.aM (RA4 y.ru.s (iA y.ru (aa [q1] ((Iv (Of y=true/\wsE y))))))))));let I:=Iv (Of y=true/\Vc y=true/\wsE y);let b:Prop:=(∃z:Unit,aa [Ct y] (RA3 y.st (RA0 y.aT (RA0 y.ay (RA0 y.aM (RA4 y.ru.s (iA y.ru (aa [q1] (I)))))))));let G:=ak (!(ju y.aM)) (false=eL y/\a) (b);let w:Prop:=(RAP q1 (RA0 y.aM G));let F:=aa [y.aM.h] (aa [y.aM.m] (aa [y.aM.L] G));let e:Prop:=((ak y.st.bO (∃z:Unit,0=Ct y/\d) (∃z:Unit,l=Ct y/\d))/\(∀x:Unit,(Iv (Of y=true/\wsE y))->(Iv (Cs t)/\RA2 y.ru.p (RA0 y.ay (aa [Ct y] (ak i (aa [y.ru.p.ae] (aa [y.ru.p.aj] (aa [y.ay.h] (aa [y.ay.m] (aa [y.ay.L] (false=eL y/\a)))))) (ak q1 (Iv (Cs o)/\aa [y.ru.q.ae] (aa [y.ru.q.aj] (aa [y.aM.h] (aa [y.aM.m] (aa [y.aM.L] (aa [Ct y] (ak j (aa [y.ru.p.ae] (aa [y.ru.p.aj] (aa [y.ay.h] (aa [y.ay.m] (aa [y.ay.L] (aa [q1] (aa [y.ru.q.ae] (aa [y.ru.q.aj] (aa [y.aM.h] (aa [y.aM.m] (aa [y.aM.L] (false=eL y/\a)))))))))))) (ak (!q1) (Iv True/\aa [y.aM.h] (aa [y.aM.m] (aa [y.aM.L] (aa [y.ru.p.ae] (aa [y.ru.p.aj] (aa [y.ay.h] (aa [y.ay.m] (aa [y.ay.L] (aa [q1] (aa [y.ru.q.ae] (aa [y.ru.q.aj] (aa [y.aM.h] (aa [y.aM.m] (aa [y.aM.L] (aa [q1] F))))))))))))))) (aa [y.ru.p.ae] (aa [y.ru.p.aj] (aa [y.ay.h] (aa [y.ay.m] (aa [y.ay.L] (aa [q1] (aa [y.ru.q.ae] (aa [y.ru.q.aj] (aa [y.aM.h] (aa [y.aM.m] (aa [y.aM.L] (aa [q1] (b))))))))))))))))))))) (ak (!q1) (Iv True/\aa [y.aM.h] (aa [y.aM.m] (aa [y.aM.L] (aa [y.ru.p.ae] (aa [y.ru.p.aj] (aa [y.ay.h] (aa [y.ay.m] (aa [y.ay.L] (aa [q1,q1] F))))))))) (aa [y.ru.p.ae] (aa [y.ru.p.aj] (aa [y.ay.h] (aa [y.ay.m] (aa [y.ay.L] (aa [q1,q1] (b)))))))))))))/\(∀D:Unit,I->ak (!y.st.eI) (ak (aC y.st.aZ 0) (ak (aC y.st.size 0) (ak C (Iv True/\RA0 y.aT (ju y.aT=eL y/\a)) (false=eL y/\a)) (false=eL y/\a)) (false=eL y/\a)) (ak (!q1) (false=eL y/\a) (ak y.st.bO (false=eL y/\a) (ak (az y.st.size 0) (false=eL y/\a) (ak A (false=eL y/\a) (ak (az y.st.aZ 0) (false=eL y/\a) (ak g (false=eL y/\a) (Iv (y.st.aS.length<=1000)/\RAQ y.st.aS y.st.size (RA4 y.ru.s (iA y.ru (aa [q1] (ak k (Iv (Cs n)/\aa [y.ru.p.ae] (aa [y.ru.p.aj] (aa [y.aT.h] (aa [y.aT.m] (aa [y.aT.L] (aa [u] (aa [y.st.aS] (aa [y.st.size] (aa [y.ru.p.ae] (aa [y.ru.p.aj] (aa [y.aT.h] (aa [y.aT.m] (aa [y.aT.L] (aa [y.st.size] (lx (n,u)=eL y/\a))))))))))))))) (aa [y.st.aS] (aa [y.st.size] (false=eL y/\a)))))))))))))))));let f:Prop:=(ak y.st.bO (ak (aI l 200) (false=eL y/\a) (e)) (e));(jv .i64 y.st.pos=true/\jv .i64 y.st.bd=true/\True/\True/\jv .i64 y.st.aZ=true/\jv .i64 y.st.size=true/\aI (ah y.st.aS) 9223372036854775807=true/\aI (ah y.aT.h) 9223372036854775807=true/\jv .i64 y.aT.m=true/\aI (ah y.aT.L) 9223372036854775807=true/\aI (ah y.ay.h) 9223372036854775807=true/\jv .i64 y.ay.m=true/\aI (ah y.ay.L) 9223372036854775807=true/\aI (ah y.aM.h) 9223372036854775807=true/\jv .i64 y.aM.m=true/\aI (ah y.aM.L) 9223372036854775807=true/\True)->ak (az y.st.bd 0) (false=eL y/\a) (ak v (false=eL y/\a) (ak B (false=eL y/\a) (ak (!y.st.bO) (ak (az 200 l) (false=eL y/\a) (f)) (f))))
theorem Li (ae:List aV) (f:List Bool) (F:Int->Bool) (k:Int):∀n,KG ae f n F k↔F k\/∃j:Nat,j<n/\f.getD j false/\(ae.getD j cV).op=1/\k=(j:Int)+1
 | 0=>by simp[KG]
 | n+1=>by
  have i:=Li ae f F k n;have e:(⟨0,0,0,[]⟩:aV)=cV:=rfl;rw[KG,e];constructor
  ·intro h;by_cases c:f.getD n false/\(ae.getD n cV).op=1
   ·rw[Zac c] at h;by_cases q:k=(n:Int)+1
    ·exact .inr ⟨n,ω,c.1,c.2,q⟩
    ·rw[Zaa q] at h;rcases i.1 h with h | ⟨j,h1,g⟩
     ·exact .inl h
     ·exact .inr ⟨j,ω,g⟩
   ·rw[Zaa c] at h;rcases i.1 h with h | ⟨j,h1,g⟩
    ·exact .inl h
    ·exact .inr ⟨j,ω,g⟩
  ·intro h;have l:(∃j:Nat,j<n/\f.getD j false/\(ae.getD j cV).op=1/\k=(j:Int)+1)\/F k->KG ae f n F k:=λh=>i.2 h.symm
   have g:k≠(n:Int)+1\/¬(f.getD n false/\(ae.getD n cV).op=1)->KG ae f n F k:=λq=>l (h.symm.imp_left λ⟨j,a,b,c,d⟩=>⟨j,by
    by_cases e:j=n
    ·subst e;rcases q with q | q
     ·exact absurd d q
     ·exact absurd ⟨b,c⟩ q
    ·omega,b,c,d⟩)
   split
   ·show(if k=(n:Int)+1 then true else KG ae f n F k)
    by_cases q:k=(n:Int)+1
    ·rw[Zac q]
    ·rw[Zaa q];exact g (.inl q)
   ·exact g (.inr (by assumption))
def IB (f:pz y) (hk:k<y.p.aj.length):Μ (Og y k) i↔(0<=i/\i<y.p.ae.length)/\(i=y.p.aj.getD k 0\/i≠0/\(lF y.p.ae (y.p.aj.getD k 0)).getD (i-1).toNat false/\(y.p.ae.getD (i-1).toNat cV).op=1):=by
 obtain⟨m,n,o,q,g,l⟩:=f.1;obtain⟨r,s,_⟩:=l k hk;have hs:ZB (Og y k)=y.p.aj.getD k 0:=rfl;unfold Μ;rw[Li,hs];show _\/(∃j:Nat,j<y.p.ae.length/\(lF y.p.ae (y.p.aj.getD k 0)).getD j false/\(y.p.ae.getD j cV).op=1/\i=(j:Int)+1)↔_
 generalize y.p.aj.getD k 0=a at*
 constructor
 ·rintro(h | ⟨j,h1,b,c,rfl⟩)
  ·have h:i=a:=by simpa using h
   exact⟨ω,.inl h⟩
  ·have:=(g.2 j h1).2.2 ω ω ω;exact⟨ω,.inr ⟨ω,by rw[show(j:Int)+1-1=j by omega];exact⟨b,c⟩⟩⟩
 ·rintro⟨⟨h1,b⟩,h | ⟨c,d,e⟩⟩
  ·exact .inl (by simpa using h)
  ·exact .inr ⟨(i-1).toNat,ω,d,e,ω⟩
theorem Χ (b:pz y) (hk:k<y.p.aj.length) (h0:0<=i) (h1:i<s.length):(λj=>if j=i then false else Wf (Og y k) s j)=Wf (Og y k) (s.set i.toNat true):=by
 funext j;unfold Wf;cases a:Μ (Og y k) j with
 | false=>simp
 | true=>
  have:=((IB b hk).1 a).1;by_cases e:j=i
  ·subst e;grind
  ·have:j.toNat≠i.toNat:=ω;grind
theorem Qea (y:B') (n:Nat):Wf y (JX n)=Μ y:=by
 funext j;unfold Wf JX;grind
theorem ϊ (f:pz y) {i:Nat} (hk:k<y.p.aj.length) (h:dwI y k (s,i)) (hi:i<(y.L.getD k fl).aL.length):let t:=(y.L.getD k fl).aL.getD i ⟨0,0,0,0,0,0,0,0,0,0,0⟩
  (Wf (Og y k) s t.pc->fp t y.m->dwI y k (s.set t.pc.toNat true,i+1))/\(Wf (Og y k) s t.pc=false\/fp t y.m=false->false=gC y):=by
 obtain⟨h1,g,j,d,c⟩:=h;simp only at j d c ⊢;have e:(y.L.getD k fl).aL.getD i ⟨0,0,0,0,0,0,0,0,0,0,0⟩=(y.L.getD k fl).aL[i]:=by grind
 rw[Zaq hi,We] at c;rw[e];generalize (y.L.getD k fl).aL[i]=t at c ⊢;refine⟨λa b=>⟨h1,g,hi,by simpa using d,?_⟩,λa=>Iy h1 ?_⟩
 ·have l:Μ (Og y k) t.pc:=by
   unfold Wf at a;grind
  obtain⟨⟨c1,c2⟩,_⟩:=(IB f hk).1 l;rw[a,b,Χ f hk c1 ω] at c;simpa using c
 ·rw[c];rcases a with a | a<;>simp[a]
theorem Qr9 (y:fZ) (C:pz y):Vj y:=by
 unfold Vj;have⟨F,R,M⟩:=C;have⟨S,T,U,V,Q,H⟩:=F;simp only[bN,bh,BJ,EwC,fN,aw,di,Zad,Zan,Zao,br,cO];refine⟨F,λk1=>?_,λk1=>⟨λk2=>?_,λk2=>⟨λk3=>?_,λk3=>⟨⟨0,rfl,Zaj _,rfl⟩,λx G=>⟨λk4=>?_,λk4=>?_⟩⟩⟩⟩⟩
 ·grind [kr]
 ·grind [kr]
 ·grind [kr]
 ·have j:x<y.L.length:=ω;have g:x<y.p.aj.length:=ω;have l:(x:Int)<y.p.aj.length:=ω;have hi:aD .i64 ↑x 1=((x+1:Nat):Int):=bG ω ω;have v:(⟨false,0,0,0,0,0,0,0,0,0,0,[]⟩:b5)=fl:=rfl;have k:=Iy j;have hu:uq y x=(!(!(y.L.getD x fl).done&&!wlN (y.L.getD x fl))&&fp (NH (y.L.getD x fl)) y.m&&We y.m (y.L.getD x fl).aL (Μ (Og y x))):=rfl;rw[U2] at hu;unfold NH at hu;simp only[v];refine⟨ω,k4,λc=>k (by rw[hu,c];simp),λc=>(λ(n:uq y x=We y.m (y.L.getD x fl).aL (Μ (Og y x))->_)=>⟨λd=>⟨λe=>k ?a,λe=>n ?b⟩,λd=>n ?c⟩) ?m⟩
  case a=>rw[hu,d];simp only[aC] at e;simp_all
  case b=>
   rw[hu,c,d];have e:decide ((y.L.getD x fl).c0= -1/\(y.L.getD x fl).c1= -1/\(y.L.getD x fl).c2= -1/\(y.L.getD x fl).c3= -1/\(y.L.getD x fl).c4= -1/\(y.L.getD x fl).c5= -1/\(y.L.getD x fl).c6= -1/\(y.L.getD x fl).c7= -1/\(y.L.getD x fl).c8= -1/\(y.L.getD x fl).c9= -1):=by simpa [aC] using e
   rw[e];simp
  case c=>rw[hu,c,d];simp
  case m=>
   intro N;refine⟨⟨⟨Q,(H x g).1,(H x g).2.1⟩,ZaF _,l⟩,ZaF _,ZaQ _,ω,x,⟨(JX y.p.ae.length,0),rfl,rfl,rfl,rfl,rfl,rfl,rfl,rfl,rfl,rfl,rfl,rfl,rfl,rfl,rfl,j,G.2,Zaj _,by unfold JX;simp,by rw[Qea];exact N⟩,λz hz=>⟨λk5=>?_,λk5=>⟨x+1,hi,⟨j,?_⟩,ω⟩⟩⟩
   ·obtain⟨s,i⟩:=z;simp only at k5 hz ⊢;have A:i<(y.L.getD x fl).aL.length:=ω;obtain⟨g1,g2⟩:=ϊ C g hz A;have qG:s.length=y.p.ae.length:=hz.2.2.2.1;have B:aD .i64 (i:Int) 1=((i+1:Nat):Int):=by
     have:=M (y.L.getD x fl) (by grind);exact bG ω ω
    have u:=mR y.p.ae (uU (y.p,(x:Int)));have K:uU (y.p,(x:Int))=y.p.aj.getD x 0:=rfl;rw[K] at u ⊢;have I:(⟨0,0,0,[]⟩:aV)=cV:=rfl;simp only[Wf,B,I] at g1 g2 ⊢;generalize (y.L.getD x fl).aL.getD i ⟨0,0,0,0,0,0,0,0,0,0,0⟩=t at*
    have o:=IB C g (i:=t.pc);generalize Μ (Og y x) t.pc=W at*
    have P:fp ⟨0,t.c0,t.c1,t.c2,t.c3,t.c4,t.c5,t.c6,t.c7,t.c8,t.c9⟩ y.m=fp t y.m:=rfl;rw[P];have r:W≠true->false=gC y:=λh=>g2 (.inl (by simp at h;simp[h]))
    by_cases h0:0<=t.pc/\t.pc<y.p.ae.length
    ·have O:cQ .i64 t.pc 1=t.pc-1:=qJ ω ω;rw[O];refine⟨ω,k5,λh=>ω,λ_=>⟨λh=>ω,λ_=>⟨h0.1,ω,λa=>g2 (.inl (by rw[a];simp)),λa=>⟨λb=>g2 (.inr b),λb=>⟨ω,l,?_⟩⟩⟩⟩⟩;have q:W->(0<=t.pc/\t.pc<(s.length:Int)/\∃z:List Bool×Nat,(s.length:Int)=z.1.length/\((i+1:Nat):Int)=z.2/\s.set t.pc.toNat true=z.1/\dwI y x z/\(y.L.getD x fl).aL.length-z.2<(y.L.getD x fl).aL.length-i):=λw=>⟨h0.1,ω,(s.set t.pc.toNat true,i+1),by rw[Zbb],rfl,rfl,g1 (by rw[w,a];rfl) b,by show _-(i+1)<_;omega⟩
     refine⟨λc=>⟨λd=>r λw=>?_,λd=>⟨ω,ω,λe=>r λw=>?_,λe=>⟨ω,ω,λf=>r λw=>?_,λf=>q (o.2 ⟨h0,.inr ⟨d,e,f⟩⟩)⟩⟩⟩,λc=>q (o.2 ⟨h0,.inl c⟩)⟩
     all_goals have w:=(o.1 w).2;grind
    ·have E:=r λw=>h0 (o.1 w).1
     exact⟨ω,k5,λ_=>E,λa=>⟨λ_=>E,λb=>absurd ⟨a,b⟩ h0⟩⟩
   ·have D:=hz.2.2.2.2;have J:z.2=(y.L.getD x fl).aL.length:=by have:=hz.2.2.1;omega
    rw[J,ZbH,We] at D;rw[f_,G.2,D];rfl
 ·grind [kr]
def QjY (a:Ok gW):Ok Vg:=okZ [U4,Qjy,ρ,NI] f160 Qr2 ⟨QjB a,QjC,U5,QbA⟩ Qr9
theorem QjZ (b:Ok gW):Ok Ν:=okZ (V:=QbI) [Vg,Mj] f98 (λ_=>dr ()) ⟨QjY b,QfY⟩ λy a=>by
 have a:pz y.v:=a;unfold QbI;simp only[bh];have:aC (ah y.h) 0=decide (y.h=[]):=by unfold aC ah;rw[decide_eq_decide];simp
 rw[this];grind [ES,uV]
def Qj0 (a:Ok gW):Ok QjU:=okZ (V:=Lc) [Ν] f55 (λ_=>dr ()) (QjZ a) QjM
def Qj1:Ok QjV:=okZ (V:=Ld) [] f56 (λ_=>dr ()) trivial QjO
def edP (d:Bool) (z:Int) (t:b5):Prop:=(-1<=t.c0/\t.c0<=z/\(d\/t.c0= -1))/\(-1<=t.c1/\t.c1<=z/\(d\/t.c1= -1))/\(-1<=t.c2/\t.c2<=z/\(d\/t.c2= -1))/\(-1<=t.c3/\t.c3<=z/\(d\/t.c3= -1))/\(-1<=t.c4/\t.c4<=z/\(d\/t.c4= -1))/\(-1<=t.c5/\t.c5<=z/\(d\/t.c5= -1))/\(-1<=t.c6/\t.c6<=z/\(d\/t.c6= -1))/\(-1<=t.c7/\t.c7<=z/\(d\/t.c7= -1))/\(-1<=t.c8/\t.c8<=z/\(d\/t.c8= -1))/\(-1<=t.c9/\t.c9<=z/\(d\/t.c9= -1))
theorem Qsa (y:DnY) (j:y.l.length<=1000):Vk y:=by
 unfold Vk;simp only[bN,bh,BJ,fN,aw,di,Zad,Zan,Zao];refine⟨λk=>?_,λk=>⟨⟨0,rfl,Zaj _,rfl⟩,λx i=>⟨λh=>?_,λh=>?_⟩⟩⟩
 ·grind [tA,ou]
 ·have c:x<(ou y).l.length:=by show x<y.l.length;omega
  have f:NM (ou y) x↔(y.l.getD x fl).aL.length=0/\edP (y.l.getD x fl).done y.z (y.l.getD x fl):=by
   show(decide ((y.l.getD x fl).aL.length=0)&&edC (y.l.getD x fl).done y.z (NH (y.l.getD x fl)))↔_
   simp[edC,NH,oq,edP,Zdc]
  have d:¬((y.l.getD x fl).aL.length=0/\edP (y.l.getD x fl).done y.z (y.l.getD x fl))->false=gg (ou y):=λh=>QbE c (by rw[<-f] at h;simpa using h)
  have a:((y.l.getD x fl).aL.length=0/\edP (y.l.getD x fl).done y.z (y.l.getD x fl))->∃z:Nat,aD .i64 (x:Int) 1=(z:Int)/\(z<=y.l.length/\ly (ou y) z)/\y.l.length-z<y.l.length-x:=λh=>⟨x+1,bG ω ω,⟨c,by rw[ly,i.2,f.2 h];rfl⟩,ω⟩
  have g:(⟨false,0,0,0,0,0,0,0,0,0,0,[]⟩:b5)=fl:=rfl;simp only[g];generalize y.l.getD x fl=t at*
  unfold edP at d a;clear f;have e:∀b:Bool,(aC t.c0 (-1)&&(aC t.c1 (-1)&&(aC t.c2 (-1)&&(aC t.c3 (-1)&&(aC t.c4 (-1)&&(aC t.c5 (-1)&&(aC t.c6 (-1)&&(aC t.c7 (-1)&&(aC t.c8 (-1)&&aC t.c9 (-1))))))))))=b↔decide (t.c0= -1/\t.c1= -1/\t.c2= -1/\t.c3= -1/\t.c4= -1/\t.c5= -1/\t.c6= -1/\t.c7= -1/\t.c8= -1/\t.c9= -1)=b:=λb=>by simp[aC]
  simp only[e,ZaP,Zbi];cases ht:t.done<;>rw[ht] at d a<;>simp only[ht,ZaE,Zdv,true_or,Zai,ZbV,ZaX,Zb0,reduceCtorEq] at d a ⊢
  all_goals
   with_reducible repeat' first | apply And.intro | intro _
   all_goals first | omega | exact d ω | exact a ω | exact trivial
 ·grind [tA,ou]
def Qj3:Ok Vh:=okZ [ρ] f57 Qr5 U5 Qsa
def Qj4 {z l:Int} (b: -9223372036854775808<=i/\i<=9223372036854775807) (hz:0<=z/\z<=500) (hl:0<=l/\l<=1099511627776):aC (aD .i64 (aD .i64 i z) 1) l=aC i (cQ .i64 (cQ .i64 l z) 1):=by
 rw[qJ (a:=l) ω ω,qJ ω ω];by_cases h:i+z+1<=9223372036854775807
 ·rw[bG (a:=i) ω ω,bG ω ω];unfold aC;rw[decide_eq_decide];omega
 ·have:aC i (l-z-1)=false:=by unfold aC;simp;omega
  rw[this];have hw:aD .i64 (aD .i64 i z) 1<0:=by
   unfold aD IntKind.wrap;simp only[IntKind.bits,IntKind.signed,ZbI,ZaP];split<;>split<;>omega
  unfold aC;simp;omega
theorem Qsb (y:iX) (l:IA y):Vl y:=by
  have⟨⟨h1,f,M,g,O⟩,C⟩:=l;have j:eL y=(Of y&&Vc y&&EU y):=aJ _;unfold Vl;have k:gg (ou ⟨⟨y.ru.s,y.ru.p,y.ru.q,[]⟩,y.st.aS,y.st.size⟩)=gg ⟨y.st.aS,ah y.ru.s.r,y.st.size⟩:=by
    unfold ou ah;rw[C]
  simp only[bh,k,fN,ZaZ,ZaY];rintro⟨u,v,a,w,-⟩;have a:=zM.1 a;have Q:Ct y=if y.st.bO=true then 0 else cQ .i64 y.st.pos y.st.bd:=rfl
  have d:iW y.ru=!(seq y.ru.s.c []):=rfl;have i:y.st.size<0\/500<y.st.size\/y.st.bd<0\/1099511627776<y.st.bd\/aC (aD .i64 (aD .i64 y.st.aZ y.st.size) 1) y.st.bd=aC y.st.aZ (cQ .i64 (cQ .i64 y.st.bd y.st.size) 1):=by
    by_cases c:(0<=y.st.size/\y.st.size<=500)/\0<=y.st.bd/\y.st.bd<=1099511627776
    · exact .inr (.inr (.inr (.inr (Qj4 a c.1 c.2))))
    · omega
  have hH:Of y=!(az y.st.bd 0||az y.st.pos y.st.bd||az 1099511627776 y.st.pos||!(y.st.bO==az 200 (cQ .i64 y.st.pos y.st.bd))):=rfl;have D:Vc y=(lx (⟨⟨y.ru.p,y.ay.m,y.ay.L⟩,y.ay.h⟩,Ct y)&&(if iW y.ru=true then lx (⟨⟨y.ru.q,y.aM.m,y.aM.L⟩,y.aM.h⟩,Ct y) else ju y.aM)):=rfl;have F:EU y=(if y.st.eI=false then aC y.st.aZ 0&&aC y.st.size 0&&aC (ah y.st.aS) 0&&ju y.aT
   else iW y.ru&&!y.st.bO&&aI 0 y.st.size&&aI y.st.size 500&&aI 0 y.st.aZ&&aC y.st.aZ (cQ .i64 (cQ .i64 y.st.bd y.st.size) 1)&&gg ⟨y.st.aS,ah y.ru.s.r,y.st.size⟩&&lx (⟨⟨y.ru.p,y.aT.m,y.aT.L⟩,y.aT.h⟩,aD .i64 (aD .i64 y.st.size 1) (Ct y))):=rfl
  have hl:Of y->0<=y.st.bd/\y.st.bd<=1099511627776:=λh=>by
    rw[hH] at h;simp[az] at h;omega
  rw[d] at D F;have b:(!(seq y.ru.s.c []))->pz ⟨y.ru.q,y.aM.m,y.aM.L⟩:=λh=>g (d.trans h)
  have x:pz ⟨y.ru.p,y.ay.m,y.ay.L⟩:=h1;have z:pz ⟨y.ru.p,y.aT.m,y.aT.L⟩:=f;have P:wsE y:=a;unfold Cs;generalize Ct y=N at*
  generalize lx (⟨⟨y.ru.p,y.ay.m,y.ay.L⟩,y.ay.h⟩,N)=A at*
  generalize lx (⟨⟨y.ru.q,y.aM.m,y.aM.L⟩,y.aM.h⟩,N)=B at*
  generalize lx (⟨⟨y.ru.p,y.aT.m,y.aT.L⟩,y.aT.h⟩,aD .i64 (aD .i64 y.st.size 1) N)=Z at*
  generalize gg ⟨y.st.aS,ah y.ru.s.r,y.st.size⟩=E at*
  generalize ju y.aM=G at*
  generalize ju y.aT=I at*
  generalize (!(seq y.ru.s.c []))=J at*
  generalize cQ .i64 y.st.pos y.st.bd=K at*
  generalize aC (aD .i64 (aD .i64 y.st.aZ y.st.size) 1) y.st.bd=t at*
  generalize aC y.st.aZ (cQ .i64 (cQ .i64 y.st.bd y.st.size) 1)=e2 at*
  clear h1 f g l u v a w;simp only[j];generalize Of y=n at*
  generalize Vc y=o at*
  generalize EU y=H at*
  clear j d k
  with_reducible repeat' first | assumption | apply And.intro | intro _
  all_goals first | exact b (by assumption) | (simp_all [kE,Vf];done) | skip
  all_goals
    have R:=mI.1 ‹az y.st.size 0=false›;have S:=mI.1 ‹az 500 y.st.size=false›;have q:=hl (‹n/\o/\_›).1;have e:t=e2:=by rcases i with h | h | h | h | h<;>first | exact h | (exfalso;omega)
    clear i;simp_all [Vf]
def Qj5 (a:Ok gW):Ok Vi:=okZ [QjU,QjV,Vh] f20 Qr7 ⟨Qj0 a,Qj1,Qj3⟩ Qsb
def oC (y:List b5×Bool):Prop:=y.1.length<=1000/\y.2=aC (ah y.1) 0
def EV:bk D:=bP 59 (List b5×Bool) (λa s=>match a with
 | [l]=>aA (aW D s 2 l) λl=>.split (aC (ah (l:List b5)) 0) (.ret ((l:List b5),true)) (.ret ((l:List b5),false))
 | _=>.fail) oC (λy=>[.list 2 y.1]) λy=>match y.2 with
 | true=>.cW
 | false=>.list 2 (List.map jR y.1)
def Qj6 (y:EV.Y):cU D:=match Prod.snd y with
 | true=>⟨[],[],[],[],1,[]⟩
 | false=>⟨[],[],[(58,⟨Nat,[6,7],λk=>[(3,.grow 2 (List.map jR (List.take k (Prod.fst y:List b5))) 0),(8,QtJ k)],[],λ_=>[(0,.tok 2 106)],1,λk=>k<=List.length (Prod.fst y:List b5),λk=>List.length (Prod.fst y:List b5) -k⟩)],[],1,[]⟩
def IC (y:List b5):Prop:=let a:=gt (b5.mk false 0 0 0 0 0 0 0 0 0 0 []) y 0;ak (az 0 (ah y)) (Tt 1 (az 0 (ah y)/\bF (ah [b5.mk a.done a.c0 a.c1 a.c2 a.c3 a.c4 a.c5 a.c6 a.c7 a.c8 a.c9 []]) 112/\False)) (True)
def ID (y:List b5):Prop:=(∃z:Nat,RAQ y (ah y) ([]=List.map jR (List.take z y)/\0=(z:Int)/\(Iv (z<=y.length))))/\(∀x:Nat,let b:=y.length;let q1:=List.map jR (List.take x y);let c:=az (x:Int) (ah y);let a:=gt (b5.mk false 0 0 0 0 0 0 0 0 0 0 []) y (x:Int).toNat;let d:=bM q1 [b5.mk a.done a.c0 a.c1 a.c2 a.c3 a.c4 a.c5 a.c6 a.c7 a.c8 a.c9 []];(Iv (x<=b))->ak c (aI 0 (x:Int)/\c/\bF (ah d) 112/\∃z:Nat,RAQ y (ah y) (d=List.map jR (List.take z y)/\aD .i64 (x:Int) 1=(z:Int)/\(Iv (z<=b/\(b-z)<(b-x))))) (q1=List.map jR y/\True))
theorem Qj9 (y:List b5) (a:EV.pre (y,true)):IC y:=by
 obtain⟨h1,b⟩:y.length<=1000/\true=aC (ah y) 0:=a;grind [IC]
theorem Qka (y:List b5) (a:EV.pre (y,false)):ID y:=by
 obtain⟨a,_⟩:y.length<=1000/\false=aC (ah y) 0:=a;unfold ID;simp only[fK,fB,gx,eV,mI,aw,Zad,br,a8];refine⟨⟨0,rfl,rfl,Zaj _⟩,λx b=>⟨λk=>?_,λk=>?_⟩⟩
 ·grind [jR,List.take_append_getElem]
 ·grind
def Qkb:Ok EV:=QtT (k:=EV) (T:=IC) (F:=ID) [] f59 Qj6 id id (λ_=>rfl) trivial Qj9 Qka
theorem n_ {y:iX} (h:eL y) (a:y.st.eI=false):aC y.st.aZ 0/\aC y.st.size 0/\aC (ah y.st.aS) 0/\ES (sD y.ru.p y.ay)/\(iW y.ru->ES (sD y.ru.q y.aM)):=by
 grind [eL,Vc,EU,aJ,wsT,lx]
def AP:bk D:=⟨27,ij,TT .n,tr .n,λ_=>[.ptr 3 0],xS .n 4,λy=>HG ⟨y.pos,y.bd,y.bO,false,0,0,[]⟩ No (pq y.ay) No,xS .n 4,25,25⟩
def dq (y:iX):Int:=if y.st.eI=true then y.st.aZ else y.st.bd
def IE:bk D:=⟨23,iX×Bool,λa s=>match a with
 | [r,x]=>aA (Qd6 r x s) λy=>.split (iW y.ru) (.ret (y,true)) (.ret (y,false))
 | _=>.fail,λy=>gA (y.1.ru,y.2),λy=>[.ptr 0 0,wsA y.1],λy=>Ey y.1.ru,λy=>.tuple [HG ⟨dq y.1,dq y.1,false,false,0,0,[]⟩ No (pq (bJ y.1.ru.p)) (match y.2 with
 | true=>pq (bJ y.1.ru.q)
 | false=>No),.num .i64 0],λy=>Ey y.1.ru,3,3⟩
def Qeb (c:Nat) (a:List (AV D.E)) (s:St D.E):C (List (D.E c)):=match a with
 | [l,_]=>aW D s c l
 | _=>.fail
def Qec (c:Nat) (l:List (D.E c)):cU D:=⟨[],[],[(58,⟨Nat,[0,1],λk=>[(5,QtJ k)],[],λ_=>[],0,λk=>k<=l.length,λk=>l.length-k⟩)],[],1,[]⟩
def ϋ:bk D:=bP 106 By (Qeb 0) (λy=>y.length<=1000000000) (λy=>[.list 0 y,.list 0 y]) λ_=>.lit true
def ό:bk D:=bP 105 (List bA) (Qeb 1) (λy=>y.length<=1000000000) (λy=>[.list 1 y,.list 1 y]) λ_=>.lit true
def Vo:bk D:=bP 69 (List b5) (Qeb 2) qR (λy=>[.list 2 y,.list 2 y]) λ_=>.lit true
def NO (y:mc):Prop:=y.h.length<=1000000/\qR y.L
def ύ:bk D:=bP 107 (Int×List b5) (λa s=>match a with
 | [m,_]=>Qjw m s
 | _=>.fail) (λy=>qR y.2) (λy=>[.agg [QtJ y.1,.list 2 y.2],.agg [QtJ y.1,.list 2 y.2]]) λ_=>.lit true
def Qkf (v:AV D.E) (s:St D.E):C mc:=aA (asAgg v) λcs=>match cs with
 | [h,m,l]=>yh h m l s
 | _=>.fail
def ώ:bk D:=bP 70 mc (λa s=>match a with
 | [m,_]=>Qkf m s
 | _=>.fail) NO (λy=>[.agg (ET y),.agg (ET y)]) λ_=>.lit true
structure vP where
 st:uP
 aT:mc
 ay:mc
 aM:mc
def Wh (y:vP):AV D.E:=HG y.st (ET y.aT) (ET y.ay) (ET y.aM)
def Qed (x:AV D.E) (s:St D.E):C vP:=aA (asAgg x) λcs=>match cs with
  | [p,l,g,o,e,z,n,h1,p1,h,b,p2,i,f,p3,j]=>aQ (da p) λ_ p=>aQ (da l) λ_ l=>aQ (AZ g) λg _=>aQ (AZ o) λo _=>aQ (da e) λ_ e=>aQ (da z) λ_ z=>aA (aW D s 2 n) λn=>aA (yh h1 p1 h s) λc=>aA (yh b p2 i s) λa=>aA (yh f p3 j s) λd=>.ret ⟨⟨p,l,g,o,e,z,n⟩,c,a,d⟩
  | _=>.fail
def yT (y:vP):Prop:=qR y.st.aS/\NO y.aT/\NO y.ay/\NO y.aM
def Ϗ:bk D:=bP 25 vP (λa s=>match a with
 | [m,_]=>Qed m s
 | _=>.fail) yT (λy=>[Wh y,Wh y]) λ_=>.lit true
def Qsi (c:Nat) (a:List (AV D.E)) (s:St D.E):C (List (D.E c)):=match a with
 | [l]=>aW D s c l
 | _=>.fail
def NP:bk D:=bP 61 (List b5) (Qsi 2) qR (λy=>[.list 2 y]) λy=>.list 2 y
def Qsj (y:NP.Y):cU D:=⟨[],[],[(58,⟨Nat,[0],λk=>[(3,.grow 2 (List.take k (y:List b5)) 0),(4,QtJ k)],[],λ_=>[(0,.tok 2 106)],1,λk=>k<=List.length (y:List b5),λk=>List.length (y:List b5) -k⟩)],[],1,[]⟩
def ϐ:bk D:=bP 62 mc (λa s=>match a with
 | [m]=>Qkf m s
 | _=>.fail) NO (λy=>[.agg (ET y)]) λy=>.agg (ET y)
def ϑ:bk D:=bP 22 vP (λa s=>match a with
 | [m]=>Qed m s
 | _=>.fail) yT (λy=>[Wh y]) Wh
def qt (l:List b5):Bool:=decide (l.length<=12)&&l.all λx=>decide (x.aL.length<=500)
def yi (y:vP):List (List b5):=[y.st.aS,y.aT.L,y.ay.L,y.aM.L]
def lB (y:vP):Bool:=lk ((yi y).all qt&&decide (y.aT.h.length<20)&&decide (y.ay.h.length<20)&&decide (y.aM.h.length<20))
def ke (y:vP) (i:Nat):List b5:=(yi y).getD i []
def EW:bk D:=bP 18 vP (λa s=>match a with
 | [m]=>Qed m s
 | _=>.fail) (λ_=>True) (λy=>[Wh y]) λy=>.bool (lB y)
def Qkg (y:EW.Y):cU D:=⟨[],[],[(58,{ X:=Nat,aR:=[1],sl:=λi=>[(3,.list 12 (yi y)),(4,QtJ i)],kp:=[0],pc:=λ_=>[],nx:=1,inv:=λi=>i<=4/\∀j,j<i->qt (ke y j),me:=λi=>4-i })],[],1,
 [(7462,⟨Nat,λi=>{ X:=Nat,aR:=[1,3,4],sl:=λk=>[(5,QtJ k)],kp:=[0],pc:=λ_=>[],nx:=1,inv:=λk=>k<=(ke y i).length/\∀j,j<k->((ke y i).getD j fl).aL.length<=500,me:=λk=>(ke y i).length-k },none⟩)]⟩
def jZ (p:ej) (k:Nat):List b5:=(p.aj.take k).map jV
def Vp:bk D:=bP 168 ej TP og (λy=>[yp y]) λy=>.agg [.num .i64 0,.list 2 (jZ y y.aj.length)]
def Qsn (y:Vp.Y):cU D:=⟨[],[],[(58,⟨Nat,[],λk=>[(1,.ptr 0 0),(2,.ptr 1 0),(3,.ptr 2 0),(4,QtJ k)],[],λk=>[Ob y,(1,.cells [.num .i64 0,.cW] 31 false),(2,.cells [.num .i64 0,.grow 2 (jZ y k) 3] 31 false),(3,.tok 2 106)],4,λk=>k<=(ej.aj y).length,λk=>(ej.aj y).length-k⟩)],[],1,[]⟩
def tB (p:ej):mc:=⟨[],0,jZ p p.aj.length⟩
def ϒ:bk D:=bP 108 ej TP og (λy=>[yp y]) λy=>.agg (ET (tB y))
def NQ:mc:=⟨[],0,[]⟩
def Qki (y:jU) (n:Int):vP:=⟨⟨n,n,false,false,0,0,[]⟩,NQ,tB y.p,if iW y=true then tB y.q else NQ⟩
def ϓ:bk D:=⟨71,jU,λa s=>match a with
 | [r]=>Qd8 r s
 | _=>.fail,λy=>og y.p/\og y.q,λ_=>[.ptr 0 0],Wg,λy=>Wh (Qki y 0),Wg,1,1⟩
def ϔ:bk D:=⟨26,iX,λa s=>match a with
 | [r,x]=>QjW r x s
 | _=>.fail,λy=>og y.ru.p/\og y.ru.q,λy=>[.ptr 0 0,wsA y],λy=>Wg y.ru,λy=>Wh (Qki y.ru (dq y)),λy=>Wg y.ru,1,1⟩
end
end sx
namespace sx
open Go Go.RowKit Go.ChangeShapes Go.WideShapes Go.ChangeAt cls syn
set_option maxRecDepth 100000
def oc {k:IntKind} {n:Int} (h:(Lit.int k n).wf):jv k n:=by
 rw[cH];cases k<;>simp[Lit.wf,IntKind.min,IntKind.max,IntKind.signed,IntKind.bits] at h<;>simp[Cp,sJ]<;>omega
section
variable {H:Type} {ba:TypeId×Value->H} {W:World} {held:Bool} {M:Pm D}
variable {Z:List Value} {x:DataW H×List MemPlace} {s:ByteArray}
def dh {k:IntKind} {n:Int} (a:yv (lP W) M) (h:(Lit.int k n).wf):∀b o,W.cell? ⟨b,o,none⟩=some (.int k n)->M.sg b o=some (.int k n):=λb o c=>a b o _ (by
 show(W.cell? ⟨b,o,none⟩).bind kR=_
 rw[c];show kR (.int k n)=_
 simp only[kR,oc h,cond_true])
def Vq {v:Bool} (a:yv (lP W) M):∀b o,W.cell? ⟨b,o,none⟩=some (.bool v)->M.sg b o=some (.bool v):=λb o c=>a b o _ (by
 show(W.cell? ⟨b,o,none⟩).bind kR=_
 rw[c];rfl)
def ϕ (b:yv (lP W) M) (n:Nat) (cs:List Value) (x:DataW H×List MemPlace) (h:Oa ba prog W held n 5 cs=some x):∃y:D.E 0,iK M W (D.ba 0 y) cs:=by
 have hl:=oY 8 5 [.int .u8] cs n x (by kernel_rfl) h;obtain⟨v,r,rfl,⟨m,rfl,hw⟩,a⟩:=hl.aP;obtain rfl:=a.jD;refine⟨b8 m,?_⟩;have e:D.ba 0 (b8 m)=[.int .u8 m]:=by
  show[AV.int .u8 ((b8 m).toNat:Int)]=_
  rw[mG (oc hw)];rfl
 rw[e];exact .cons (dh b hw) .nil
def Vr (a:yv (lP W) M) (n:Nat) (cs:List Value) (x:DataW H×List MemPlace) (h:Oa ba prog W held n 179 cs=some x):∃y:D.E 1,iK M W (D.ba 1 y) cs:=by
 have g0:=oY 8 179 [.int .i64,.int .i64,.int .i64,.int .i64,.int .i64,.int .i64,.int .i64,.int .i64,.int .i64,.int .i64,.int .i64] cs n x (by kernel_rfl) h;obtain⟨v,r,rfl,⟨m,rfl,w⟩,g1⟩:=g0.aP;obtain⟨v,r,rfl,⟨m0,rfl,w0⟩,g2⟩:=g1.aP;obtain⟨v,r,rfl,⟨m1,rfl,b⟩,g3⟩:=g2.aP;obtain⟨v,r,rfl,⟨m2,rfl,c⟩,g4⟩:=g3.aP;obtain⟨v,r,rfl,⟨m3,rfl,d⟩,g5⟩:=g4.aP;obtain⟨v,r,rfl,⟨m4,rfl,w4⟩,g6⟩:=g5.aP;obtain⟨v,r,rfl,⟨m5,rfl,e⟩,g7⟩:=g6.aP;obtain⟨v,r,rfl,⟨m6,rfl,f⟩,g8⟩:=g7.aP;obtain⟨v,r,rfl,⟨m7,rfl,g⟩,g9⟩:=g8.aP;obtain⟨v,r,rfl,⟨m8,rfl,i⟩,g10⟩:=g9.aP;obtain⟨v,r,rfl,⟨m9,rfl,j⟩,g11⟩:=g10.aP;obtain rfl:=g11.jD;exact⟨(⟨m,m0,m1,m2,m3,m4,m5,m6,m7,m8,m9⟩:bA),.cons (dh a w) (.cons (dh a w0) (.cons (dh a b) (.cons (dh a c) (.cons (dh a d) (.cons (dh a w4) (.cons (dh a e) (.cons (dh a f) (.cons (dh a g) (.cons (dh a i) (.cons (dh a j) .nil))))))))))⟩
def ϖ (x y:D.E 1) (h:D.ba 1 x=D.ba 1 y):x=y:=by
 have e:∀z:bA,yE (dI 1 z)=some z:=λz=>rfl
 have a:yE (dI 1 x)=yE (dI 1 y):=ZaR yE h;exact ZbN ((e x).symm.trans (a.trans (e y)))
def Vs (n:Nat) (cs:List Value) (x:DataW H×List MemPlace) (h:Oa ba prog W held n 106 cs=some x):∃y:D.E 2,iK (mH 1 W) W (D.ba 2 y) cs:=by
 have g0:=oY 8 106 [.bool,.int .i64,.int .i64,.int .i64,.int .i64,.int .i64,.int .i64,.int .i64,.int .i64,.int .i64,.int .i64,.sl 179] cs n x (by kernel_rfl) h;have a:=(BC 1 W).2;obtain⟨v,r,rfl,⟨m,rfl⟩,g1⟩:=g0.aP;obtain⟨v,r,rfl,⟨m0,rfl,w0⟩,g2⟩:=g1.aP;obtain⟨v,r,rfl,⟨m1,rfl,f⟩,g3⟩:=g2.aP;obtain⟨v,r,rfl,⟨m2,rfl,g⟩,g4⟩:=g3.aP;obtain⟨v,r,rfl,⟨m3,rfl,i⟩,g5⟩:=g4.aP;obtain⟨v,r,rfl,⟨m4,rfl,w4⟩,g6⟩:=g5.aP;obtain⟨v,r,rfl,⟨m5,rfl,j⟩,g7⟩:=g6.aP;obtain⟨v,r,rfl,⟨m6,rfl,k⟩,g8⟩:=g7.aP;obtain⟨v,r,rfl,⟨m7,rfl,l⟩,g9⟩:=g8.aP;obtain⟨v,r,rfl,⟨m8,rfl,p⟩,g10⟩:=g9.aP;obtain⟨v,r,rfl,⟨m9,rfl,q⟩,g11⟩:=g10.aP;obtain⟨v,r,rfl,hs,g12⟩:=g11.aP;obtain rfl:=g12.jD;obtain⟨xs,e,_⟩:=BD (c:=1) (M:=lP W) (by kernel_rfl) (by exact ZcY (by kernel_rfl)) (λn cs x h=>Vr (λ_ _ _ h=>h) n cs x h) hs;exact⟨(⟨m,m0,m1,m2,m3,m4,m5,m6,m7,m8,m9,xs⟩:b5),.cons (Vq a) (.cons (dh a w0) (.cons (dh a f) (.cons (dh a g) (.cons (dh a i) (.cons (dh a w4) (.cons (dh a j) (.cons (dh a k) (.cons (dh a l) (.cons (dh a p) (.cons (dh a q)
  (.cons (λb o d=>Dy ϖ e d) .nil)))))))))))⟩
def IF {v:Value} (h:Mc ba prog W held (.sl 5) v):∃xs:By,VR (mH 1 W) (.list 0 (xs:List (D.E 0))) v/\∃a cap,v=.slice a xs.length cap:=
 BD (c:=0) (by kernel_rfl) (by exact ZcY (by kernel_rfl)) (λn cs x h=>ϕ (BC 1 W).2 n cs x h) h
def vQ {v:Value} (h:Mc ba prog W held (.sl 106) v):∃xs:List b5,VR (mH 1 W) (.list 2 (xs:List (D.E 2))) v:=by
 obtain⟨xs,h,_⟩:=BD (c:=2) (by kernel_rfl) (by exact ZcY (by kernel_rfl)) (λn cs x h=>Vs n cs x h) h;exact⟨xs,h⟩
def NR {n:Nat} (h:Oa ba prog W held n 35 Z=some x):∃y:vP,LR (mH 1 W) (cR (Wh y)) Z:=by
 have g0:=oY 8 35 [.int .i64,.int .i64,.bool,.bool,.int .i64,.int .i64,.sl 106,.sl 5,.int .i64,.sl 106,.sl 5,.int .i64,.sl 106,.sl 5,.int .i64,.sl 106] Z n x (by kernel_rfl) h;obtain⟨v,r,rfl,⟨m0,rfl,w0⟩,g1⟩:=g0.aP;obtain⟨v,r,rfl,⟨m1,rfl,D⟩,g2⟩:=g1.aP;obtain⟨v,r,rfl,⟨m2,rfl⟩,g3⟩:=g2.aP;obtain⟨v,r,rfl,⟨m3,rfl⟩,g4⟩:=g3.aP;obtain⟨v,r,rfl,⟨m4,rfl,w4⟩,g5⟩:=g4.aP;obtain⟨v,r,rfl,⟨m5,rfl,E⟩,g6⟩:=g5.aP;obtain⟨v,r,rfl,A,g7⟩:=g6.aP;obtain⟨u,q⟩:=vQ A;obtain⟨v,r,rfl,B,g8⟩:=g7.aP;obtain⟨w,s,_⟩:=IF B;obtain⟨v,r,rfl,⟨m8,rfl,F⟩,g9⟩:=g8.aP;obtain⟨v,r,rfl,C,g10⟩:=g9.aP;obtain⟨z,t⟩:=vQ C;obtain⟨v,r,rfl,j,g11⟩:=g10.aP;obtain⟨e,a,_⟩:=IF j;obtain⟨v,r,rfl,⟨m11,rfl,o⟩,g12⟩:=g11.aP;obtain⟨v,r,rfl,k,g13⟩:=g12.aP;obtain⟨f,b⟩:=vQ k;obtain⟨v,r,rfl,l,g14⟩:=g13.aP;obtain⟨g,c,_⟩:=IF l;obtain⟨v,r,rfl,⟨m14,rfl,p⟩,g15⟩:=g14.aP;obtain⟨v,r,rfl,m,g16⟩:=g15.aP;obtain⟨i,d⟩:=vQ m;obtain rfl:=g16.jD;exact⟨⟨⟨m0,m1,m2,m3,m4,m5,u⟩,⟨w,m8,z⟩,⟨e,m11,f⟩,⟨g,m14,i⟩⟩,.cons (.int (oc w0)) (.cons (.int (oc D)) (.cons (.bool m2) (.cons (.bool m3) (.cons (.int (oc w4)) (.cons (.int (oc E)) (.cons q (.cons s (.cons (.int (oc F)) (.cons t (.cons a (.cons (.int (oc o)) (.cons b (.cons c (.cons (.int (oc p)) (.cons d .nil)))))))))))))))⟩
def AQ (h:s.size<=maxLen):s.data.toList.length<=9223372036854775807:=by
 have:s.data.toList.length=s.size:=by rw[Zba];rfl
 unfold maxLen at h;omega
def Lj (a:yv (lP W) M) (h:s.size<=maxLen):∀b o,W.cell? ⟨b,o,none⟩=some (.string s)->M.sg b o=some (.str s.data.toList):=λb o c=>a b o _ (by
 show(W.cell? ⟨b,o,none⟩).bind kR=_
 rw[c];show kR (.string s)=_
 simp only[kR];rw[Zac (AQ h)])
def Vt (c:yv (lP W) M) (n:Nat) (cs:List Value) (x:DataW H×List MemPlace) (h:Oa ba prog W held n 77 cs=some x):∃y:D.E 3,iK M W (D.ba 3 y) cs:=by
 have g0:=oY 8 77 [.str,.str] cs n x (by kernel_rfl) h;obtain⟨v,r,rfl,⟨a,rfl,q1⟩,g1⟩:=g0.aP;obtain⟨v,r,rfl,⟨b,rfl,d⟩,g2⟩:=g1.aP;obtain rfl:=g2.jD;exact⟨(⟨a.data.toList,b.data.toList⟩:rW),.cons (Lj c q1) (.cons (Lj c d) .nil)⟩
def Vu {n:Nat} (h:Oa ba prog W held n 24 Z=some x):∃y:cF,LR (mH 1 W) [.list 3 y.r,.str y.c] Z:=by
 have g0:=oY 8 24 [.sl 77,.str] Z n x (by kernel_rfl) h;obtain⟨v,r,rfl,s0,g1⟩:=g0.aP;obtain⟨a0,b,_⟩:=BD (c:=3) (M:=mH 1 W) (by kernel_rfl) (by exact ZcY (by kernel_rfl)) (λn Z x h=>Vt (BC 1 W).2 n Z x h) s0;obtain⟨v,r,rfl,⟨a,rfl,q1⟩,g2⟩:=g1.aP;obtain rfl:=g2.jD;exact⟨⟨a0,a.data.toList⟩,.cons b (.cons (.str (AQ q1)) .nil)⟩
end
end sx
set_option maxRecDepth 100000
set_option maxHeartbeats 4000000
namespace sx
noncomputable section
open Go Go.RowKit cls syn
def QbJ (y:List UInt8):Prop:=let c:=!(aC (ah y) (ah y));ak c (False) ((∃z:Nat,RAQ y y (0=(z:Int)/\(Iv (z<=y.length))))/\(∀x:Nat,let q1:=y.length;let b:=az (x:Int) (ah y);let a:=((gt 0 y (x:Int).toNat).toNat:Int);(Iv (x<=q1))->ak b (aI 0 (x:Int)/\b/\aI 0 (x:Int)/\b/\RAQ a a (ak (!(aC a a)) (False) (∃z:Nat,aa [y,y] (aD .i64 (x:Int) 1=(z:Int)/\(Iv (z<=q1/\(q1-z)<(q1-x))))))) (True)))
def QbK (y:List bA):Prop:=let c:=!(aC (ah y) (ah y));ak c (False) ((∃z:Nat,RAQ y y (0=(z:Int)/\(Iv (z<=y.length))))/\(∀x:Nat,let q1:=y.length;let b:=az (x:Int) (ah y);let a:=gt (bA.mk 0 0 0 0 0 0 0 0 0 0 0) y (x:Int).toNat;let d:=!((aC a.pc a.pc)&&((aC a.c0 a.c0)&&((aC a.c1 a.c1)&&((aC a.c2 a.c2)&&((aC a.c3 a.c3)&&((aC a.c4 a.c4)&&((aC a.c5 a.c5)&&((aC a.c6 a.c6)&&((aC a.c7 a.c7)&&((aC a.c8 a.c8)&&(aC a.c9 a.c9)))))))))));(Iv (x<=q1))->ak b (aI 0 (x:Int)/\b/\aI 0 (x:Int)/\b/\RAP a.pc (RwH a (aa [a.pc] (RwH a (ak d (False) (∃z:Nat,aa [y,y] (aD .i64 (x:Int) 1=(z:Int)/\(Iv (z<=q1/\(q1-z)<(q1-x)))))))))) (True)))
def QbL (y:List b5):Prop:=let b:=ah y;ak (!(aC b b)) (False) ((∃z:Nat,RAQ y y (0=(z:Int)/\(Iv (z<=y.length))))/\(∀x:Nat,let q1:=y.length;let a:=gt (b5.mk false 0 0 0 0 0 0 0 0 0 0 []) y (x:Int).toNat;let c:=!(kE a.done a.done);let d:=!((aC a.c0 a.c0)&&((aC a.c1 a.c1)&&((aC a.c2 a.c2)&&((aC a.c3 a.c3)&&((aC a.c4 a.c4)&&((aC a.c5 a.c5)&&((aC a.c6 a.c6)&&((aC a.c7 a.c7)&&((aC a.c8 a.c8)&&(aC a.c9 a.c9))))))))));(Iv (x<=q1))->ak (az (x:Int) b) (aI 0 (x:Int)/\az (x:Int) b/\aI 0 (x:Int)/\az (x:Int) b/\ak c (RAQ a.done a.done (False)) (aI 0 (x:Int)/\az (x:Int) b/\aI 0 (x:Int)/\az (x:Int) b/\ak d (RAQ a.done a.done (Gy a (Gy a (False)))) (aI 0 (x:Int)/\az (x:Int) b/\aI 0 (x:Int)/\az (x:Int) b/\Iv (a.aL.length<=1000000000)/\RAS a.aL a.aL a.done a.done (Gy a (Gy a (aa [a.aL,a.aL] (∃z:Nat,aa [y,y] (aD .i64 (x:Int) 1=(z:Int)/\(Iv (z<=q1/\(q1-z)<(q1-x))))))))))) (True)))
def QbM (y:Int×(List b5)):Prop:=ak (aC y.1 y.1) (Iv (qR y.2)/\aa [y.2,y.2] (True)) (False)
def QbN (y:mc):Prop:=Iv (y.h.length<=1000000000)/\aa [y.h,y.h] (Iv (qR y.L)/\aa [y.m] (aa [y.L] (aa [y.m] (aa [y.L] (True)))))
def QbO (y:vP):Prop:=let a:=aC y.st.size y.st.size;let q1:=aC y.st.pos y.st.pos;let b:=aC y.st.bd y.st.bd;let c:=kE y.st.bO y.st.bO;let d:=kE y.st.eI y.st.eI;let e:=aC y.st.aZ y.st.aZ;ak q1 (ak b (ak c (ak d (ak e (ak a (Iv (qR y.st.aS)/\RAQ y.st.aS y.st.aS (Iv (NO y.aT)/\aa [y.aT.h] (aa [y.aT.m] (aa [y.aT.L] (aa [y.aT.h] (aa [y.aT.m] (aa [y.aT.L] (Iv (NO y.ay)/\aa [y.ay.h] (aa [y.ay.m] (aa [y.ay.L] (aa [y.ay.h] (aa [y.ay.m] (aa [y.ay.L] (Iv (NO y.aM)/\aa [y.aM.h] (aa [y.aM.m] (aa [y.aM.L] (aa [y.aM.h] (aa [y.aM.m] (aa [y.aM.L] (True)))))))))))))))))))) (False)) (False)) (False)) (False)) (False)) (False)
def QbP (y:List b5):Prop:=(∃z:Nat,RAP y ([]=List.take z y/\0=(z:Int)/\(Iv (z<=y.length))))/\(∀x:Nat,let b:=y.length;let q1:=az (x:Int) (ah y);let a:=gt (b5.mk false 0 0 0 0 0 0 0 0 0 0 []) y (x:Int).toNat;let c:=bM [] a.aL;let d:=bM (List.take x y) [b5.mk a.done a.c0 a.c1 a.c2 a.c3 a.c4 a.c5 a.c6 a.c7 a.c8 a.c9 c];(Iv (x<=b))->ak q1 (aI 0 (x:Int)/\q1/\aI 0 (x:Int)/\q1/\bF (ah c) 88/\bF (ah d) 112/\∃z:Nat,RAP y (d=List.take z y/\aD .i64 (x:Int) 1=(z:Int)/\(Iv (z<=b/\(b-z)<(b-x))))) (List.take x y=y/\True))
def QbQ (y:mc):Prop:=bF (ah (bM [] y.h)) 1/\Iv (qR y.L)/\RAW y.L y.h y.m y.m y.m y.L y.L (bM [] y.h=y.h/\aa [y.m] (aa [y.L] (True)))
def QbR (y:vP):Prop:=Iv (qR y.st.aS)/\RAP y.st.aS (Iv (NO y.aT)/\aa [y.aT.h] (aa [y.aT.m] (aa [y.aT.L] (Iv (NO y.ay)/\aa [y.ay.h] (aa [y.ay.m] (aa [y.ay.L] (Iv (NO y.aM)/\aa [y.aM.h] (aa [y.aM.m] (aa [y.aM.L] (aa [y.aT.h] (aa [y.aT.m] (aa [y.aT.L] (aa [y.ay.h] (aa [y.ay.m] (aa [y.ay.L] (aa [y.ay.h] (aa [y.ay.m] (aa [y.ay.L] (aa [y.aM.h] (aa [y.aM.m] (aa [y.aM.L] (aa [y.aM.h] (aa [y.aM.m] (aa [y.aM.L] (aa [y.aM.h] (aa [y.aM.m] (aa [y.aM.L] (aa [y.st.pos,y.st.bd] (aa [y.st.bO,y.st.eI] (aa [y.st.aZ,y.st.size] (aa [y.st.aS] (aa [y.aT.h] (aa [y.aT.m] (aa [y.aT.L] (aa [y.ay.h] (aa [y.ay.m] (aa [y.ay.L] (aa [y.aM.h] (aa [y.aM.m] (aa [y.aM.L] (True)))))))))))))))))))))))))))))))))))))))))
def Vv (y:vP):Prop:=let c:=yi y;let q1:=az (ah y.ay.h) 20;let k:=az (ah y.aT.h) 20;let f:=λp:Prop=>RA3 y.st (RA0 y.aT (RA0 y.ay (RA0 y.aM p)));let u:=b5.mk false 0 0 0 0 0 0 0 0 0 0 [];(∃z:Nat,([y.st.aS,y.aT.L,y.ay.L,y.aM.L]:List (List b5))=c/\0=(z:Int)/\f ((Iv (z<=4/\(∀j:Nat,(Nat.le (Nat.succ j) z)->qt (ke y j))))))/\(∀x:Nat,let e:=az (x:Int) (ah c);let g:=gt [] c (x:Int).toNat;(Iv (x<=4/\(∀j:Nat,(Nat.le (Nat.succ j) x)->qt (ke y j))))->ak e (aI 0 (x:Int)/\e/\ak (az 12 (ah g)) (false=lB y/\True) (∃z:Nat,let d:=(ke y z).length;(∃a:Nat,RAQ c (x:Int) (0=(a:Int)/\f ((Iv (a<=d/\(∀j:Nat,(Nat.le (Nat.succ j) a)->(List.getD (ke y z) j u).aL.length<=500))))))/\(∀b:Nat,let i:=az (b:Int) (ah g);let l:=az 500 (ah (gt u g (b:Int).toNat).aL);(Iv (b<=d/\(∀j:Nat,(Nat.le (Nat.succ j) b)->(List.getD (ke y z) j u).aL.length<=500)))->aI 0 (x:Int)/\e/\ak i (aI 0 (x:Int)/\e/\aI 0 (b:Int)/\i/\ak l (false=lB y/\True) (∃a:Nat,RAQ c (x:Int) (aD .i64 (b:Int) 1=(a:Int)/\f ((Iv ((a<=d/\(∀j:Nat,(Nat.le (Nat.succ j) a)->(List.getD (ke y z) j u).aL.length<=500))/\(d-a)<(d-b))))))) (∃a:Nat,RAP c (aD .i64 (x:Int) 1=(a:Int)/\f ((Iv ((a<=4/\(∀j:Nat,(Nat.le (Nat.succ j) a)->qt (ke y j)))/\(4-a)<(4-x))))))))) (ak k (ak q1 (az (ah y.aM.h) 20=lB y/\True) (false=lB y/\True)) (false=lB y/\True)))
abbrev RAY {T0 T1 T2 T3 T4 T5 T6 T7 T8:Type} (a:T0) (b:T1) (c:T2) (d:T3) (e:T4) (f:T5) (g:T6) (h:T7) (i:T8) (p:Prop):Prop:=aa [a] (aa [b] (aa [c] (aa [d] (aa [e] (aa [f] (aa [g] (aa [h] (aa [i] p))))))))
def QbS (y:ej):Prop:=let a:=y.aj.length;(∃z:Nat,0=(z:Int)/\[]=jZ y z/\RA2 y ((Iv (z<=a))))/\(∀x:Nat,let q1:=jZ y x;let c:=az (x:Int) (ah y.aj);let b:=gt 0 y.aj (x:Int).toNat;let d:=bM q1 [b5.mk false (-1) (-1) (-1) (-1) (-1) (-1) (-1) (-1) (-1) (-1) [bA.mk b (-1) (-1) (-1) (-1) (-1) (-1) (-1) (-1) (-1) (-1)]];(Iv (x<=a))->ak c (Iv True/\aI 0 (x:Int)=true/\c=true/\Iv True/\bF (ah d) 112=true/\RAY q1 q1 q1 y.aj y.aj y.aj b b b (∃z:Nat,aD .i64 (x:Int) 1=(z:Int)/\d=jZ y z/\aa [y.ae] (aa [y.aj] ((Iv (z<=a/\(a-z)<(a-x))))))) (q1=jZ y a/\True))
def QbT (y:ej):Prop:=let a:=jZ y y.aj.length;Iv (og y)/\aa [y.ae] (aa [y.aj] (aa ([[]]:List (List UInt8)) (aa ([0]:List Int) (aa [a] (True)))))
abbrev RAJ (p:Prop):Prop:=aa ([[]]:List (List UInt8)) p
def QbU (y:jU):Prop:=let b:=!(seq y.s.c []);let q1:=jZ y.p y.p.aj.length;let a:=ite (iW y=true) (tB y.q) NQ;let e:=λp:Prop=>RAD (RAG (RAJ (RAE (RAG (RAJ (RAE (RAP q1 p)))))));let d:Prop:=(RA4 y.s (iA y (aa [b] (True))));Iv (og y.p)/\RA2 y.p (ak b (Iv (og y.q)/\aa [y.q.ae] (aa [y.q.aj] (aa ([0,0]:List Int) (false=false/\false=false/\e ([]=a.h/\0=a.m/\jZ y.q y.q.aj.length=a.L/\d))))) (aa ([0,0]:List Int) (false=false/\false=false/\e ([]=a.h/\0=a.m/\[]=a.L/\d))))
def QbV (y:iX):Prop:=let d:=!(seq y.ru.s.c []);let q1:=jZ y.ru.p y.ru.p.aj.length;let g:=iW (jU.mk y.ru.s y.ru.p y.ru.q []);let a:=ite (iW y.ru) (tB y.ru.q) NQ;let b:=ite (g) (tB y.ru.q) NQ;let f:=λp:Prop=>RA4 y.ru.s p;let e:Prop:=(false=false/\false=false/\RAD (RAG (RAJ (RAE (RAG (RAJ (RAE (RAP q1 (b.h=a.h/\b.m=a.m/\b.L=a.L/\f (iA y.ru (aa [d] (True))))))))))));Iv (og y.ru.p/\og y.ru.q)/\f (iA y.ru (RAP d (ak y.st.eI (y.st.aZ=dq y/\y.st.aZ=dq y/\e) (y.st.bd=dq y/\y.st.bd=dq y/\e))))
def Vx (y:ij):Prop:=Iv (0<=1000)/\RAG (Iv True/\Iv (J6 y.ay.d/\qR y.ay.v.L)/\yP y.ay (Iv True/\aa [y.pos,y.pos,y.pos,y.pos,y.pos,y.bd,y.bd,y.bd,y.bd,y.bd] (aa [y.bO,y.bO,y.bO,y.bO,y.bO] (RwK y (false=false/\aa ([0,0]:List Int) (List.map jR []=[]/\aa [dj y.ay.d] (aa [y.ay.v.aF] (aa [y.ay.v.L] (Zx y.ru (RwK y (Zw y.ay (True))))))))))))
abbrev RA9 (v:qk) (p:Prop):Prop:=aa [v.v.aF] (aa [v.v.L] p)
def IG (y:iX):Prop:=let a:=bJ y.ru.p;let q1:=bJ y.ru.q;let b:Prop:=(false=false/\false=false/\RAD (RAG (aa [dj a.d] (RA9 a ([]=dj q1.d/\0=q1.v.aF/\[]=q1.v.L/\ey y.ru (True))))));let e:Prop:=(false=false/\false=false/\RAD (RAG (aa [dj a.d] (RA9 a (aa [dj q1.d] (RA9 q1 (ey y.ru (True))))))));ak (iW y.ru) (Iv (gA (y.ru,true))/\ey y.ru (Iv (tr kn.c (ij.mk y.ru 0 0 0 0 false [] a q1 Fb))/\iA y.ru (RAD (false=false/\yP q1 (yP a (ey y.ru (ak y.st.eI (y.st.aZ=dq y/\y.st.aZ=dq y/\e) (y.st.bd=dq y/\y.st.bd=dq y/\e)))))))) (Iv (gA (y.ru,false))/\ey y.ru (Iv (tr kn.n (ij.mk y.ru 0 0 0 0 false [] a Fb Fb))/\iA y.ru (RAD (false=false/\yP a (ey y.ru (ak y.st.eI (y.st.aZ=dq y/\y.st.aZ=dq y/\b) (y.st.bd=dq y/\y.st.bd=dq y/\b)))))))
def IH (y:iX):Prop:=let a:=bJ y.ru.p;let f:=λp:Prop=>RAD (RAG (aa [dj a.d] (RA9 a p)));let b:Prop:=(false=false/\false=false/\f (False));let e:Prop:=(false=false/\false=false/\f (ey y.ru (True)));ak (iW y.ru) (Iv (gA (y.ru,true))/\ey y.ru (Iv (tr kn.c (ij.mk y.ru 0 0 0 0 false [] a (bJ y.ru.q) Fb))/\iA y.ru (RAD (false=false/\yP (bJ y.ru.q) (yP a (ey y.ru (ak y.st.eI (y.st.aZ=dq y/\y.st.aZ=dq y/\b) (y.st.bd=dq y/\y.st.bd=dq y/\b)))))))) (Iv (gA (y.ru,false))/\ey y.ru (Iv (tr kn.n (ij.mk y.ru 0 0 0 0 false [] a Fb Fb))/\iA y.ru (RAD (false=false/\yP a (ey y.ru (ak y.st.eI (y.st.aZ=dq y/\y.st.aZ=dq y/\e) (y.st.bd=dq y/\y.st.bd=dq y/\e)))))))
def VB:Ok AP:=okZ (V:=Vx) [HF,Nn,Np] f27 (λ_=>dr ()) ⟨T5,T6,T7⟩ λ(y:ij) a=>by
 unfold Vx;simp only[eN,fN,nS,Zai,Zal,fB];exact⟨Zaj _,a.1,rfl⟩
theorem Qkj (y:iX) (a:IE.pre (y,true)):IG y:=by
 have a:=a;have b:=a.2.2.2;unfold IG;simp only[eN,fN,Zal,fB,l7,<-b,ZaX];refine⟨⟨a,⟨HQ a.1,HQ (a.2.2.1 b.symm),nofun⟩,λk=>?_,λk=>?_⟩,nofun⟩
 all_goals grind [dq]
theorem Qkk (y:iX) (a:IE.pre (y,false)):IH y:=by
 have a:=a;unfold IH;simp only[eN,fN,Zal,fB,l7,<-a.2.2.2,ZaX];have b:scQ Fb:=by
  refine⟨⟨by decide,by decide⟩,by decide,λl hl=>nomatch hl⟩
 refine⟨nofun,a,⟨HQ a.1,b,nofun⟩,λk=>?_,λk=>?_⟩
 all_goals grind [dq]
def Qkl (a:Ok cK):Ok IE:=QtT (k:=IE) (T:=IG) (F:=IH) [Ay,Az,AP] f23 (λ_=>dr ()) id id (λ_=>rfl) ⟨QdR a,T8,VB⟩ Qkj Qkk
def iV (a:Int):aC a a:=je.2 rfl
def eC (a:Bool):kE a a:=by cases a<;>rfl
def Qee {n x:Nat} (h:x<n) (a:n<=1000000000000):∃z:Nat,aD .i64 (x:Int) 1=(z:Int)/\z<=n/\n-z<n-x:=⟨x+1,bG ω ω,ω,ω⟩
def Qkm:Ok ϋ:=okZ (V:=QbJ) [] f106 (Qec 0) trivial λ(y:By) a=>by
 have a:y.length<=1000000000:=a;unfold QbJ;simp only[bh,iV,eC,Bool.and_self,ZcF,ZaE,ZbV,ZaX,implies_true,eV,gx,aw];exact⟨⟨0,rfl,Zaj _⟩,λx b k=>⟨ω,k,ω,k,Qee ω ω⟩⟩
def Qkn:Ok ό:=okZ (V:=QbK) [] f105 (Qec 1) trivial λ(y:List bA) a=>by
 have a:y.length<=1000000000:=a;unfold QbK;simp only[bh,iV,eC,Bool.and_self,ZcF,ZaE,ZbV,ZaX,implies_true,eV,gx,aw,BJ];exact⟨⟨0,rfl,Zaj _⟩,λx b k=>⟨ω,k,ω,k,Qee ω ω⟩⟩
theorem QbW:Ok Vo:=okZ (V:=QbL) [ό] f69 (Qec 2) Qkn λ(y:List b5) a=>by
 have a:y.length<=1000/\∀x∈y,x.aL.length<=1000000:=a;unfold QbL;simp only[bh,iV,eC,Bool.and_self,ZcF,ZaE,ZbV,ZaX,implies_true,eV,gx,aw,BJ];have:∀x:Nat,x<y.length->(y.getD x fl).aL.length<=1000000000:=λx b=>by
  have:=a.2 (y.getD x fl) (by grind);omega
 exact⟨⟨0,rfl,Zaj _⟩,λx b k=>⟨ω,k,ω,k,ω,k,ω,k,ω,k,ω,k,this x ω,Qee ω ω⟩⟩
def Qko:Ok ύ:=okZ (V:=QbM) [Vo] f107 (λ_=>dr ()) QbW λy a=>by
 unfold QbM;simp only[bh,iV,ZaX];exact⟨a,nofun⟩
def Qkp:Ok ώ:=okZ (V:=QbN) [ϋ,ύ] f70 (λ_=>dr ()) ⟨Qkm,Qko⟩ λy b=>by
 have⟨h1,a⟩:NO y:=b;unfold QbN;simp only[bh,iV,eC,Bool.and_self,ZcF,ZaE,ZbV,ZaX,implies_true,eV,gx,aw];exact⟨ω,a⟩
theorem Qkq:Ok Ϗ:=okZ (V:=QbO) [Vo,ώ] f25 (λ_=>dr ()) ⟨QbW,Qkp⟩ λy a=>by
 have⟨h1,b,c,d⟩:yT y:=a;unfold QbO;simp only[bh,iV,eC,Bool.and_self,ZcF,ZaE,ZbV,ZaX,implies_true,eV,gx,aw];grind
theorem QbX:Ok NP:=okZ (V:=QbP) [] f61 Qsj trivial λ(y:List b5) b=>by
 have b:y.length<=1000/\∀x∈y,x.aL.length<=1000000:=b;unfold QbP;simp only[bh,iV,eC,Bool.and_self,ZcF,ZaE,ZbV,ZaX,implies_true,eV,gx,aw,bN,br,a8,di,Zad,Zcb];refine⟨⟨0,rfl,rfl,Zaj _⟩,λx c=>⟨λk=>?_,λk=>?_⟩⟩
 ·have a:x<y.length:=ω;have e:y.getD x ⟨false,0,0,0,0,0,0,0,0,0,0,[]⟩=y[x]:=by grind
  have ht:=b.2 y[x] (Zas a);rw[e];exact⟨ω,k,ω,k,ω,by rw[Zab,Zar];simp;omega,x+1,by rw[Zb4 a],bG ω ω,ω,ω⟩
 ·exact ZaA ω
def Qkr:Ok ϐ:=okZ (V:=QbQ) [NP] f62 (λ_=>dr ()) QbX λy b=>by
 have⟨h1,a⟩:NO y:=b;unfold QbQ;simp only[bh,iV,eC,Bool.and_self,ZcF,ZaE,ZbV,ZaX,implies_true,eV,gx,aw,br,a8,Zcb];exact⟨ω,a⟩
def Qks:Ok ϑ:=okZ (V:=QbR) [NP,ϐ] f22 (λ_=>dr ()) ⟨QbX,Qkr⟩ λy d=>by
 have⟨h1,a,b,c⟩:yT y:=d;unfold QbR;simp only[bh,iV,eC,Bool.and_self,ZcF,ZaE,ZbV,ZaX,implies_true,eV,gx,aw];exact⟨h1,a,b,c⟩
def yj (y:vP):lB y↔(∀j,j<4->qt (ke y j))/\y.aT.h.length<20/\y.ay.h.length<20/\y.aM.h.length<20:=by
 have e:(∀j,j<4->qt (ke y j))↔qt y.st.aS/\qt y.aT.L/\qt y.ay.L/\qt y.aM.L:=by
  refine⟨λh=>⟨h 0 ω,h 1 ω,h 2 ω,h 3 ω⟩,λ⟨h0,h1,a,b⟩ j c=>?_⟩
  match j,c with
  | 0,_=>exact h0
  | 1,_=>exact h1
  | 2,_=>exact a
  | 3,_=>exact b
 rw[e,show lB y=_ from aJ _];simp[yi,Zdc]
theorem sE (l:List b5):qt l↔l.length<=12/\∀k,k<l.length->(l.getD k fl).aL.length<=500:=by
 unfold qt;simp only[ZaW,ZaP,List.all_eq_true];refine and_congr_right λ_=>⟨λh k hk=>h _ (by grind),λh x a=>?_⟩
 obtain⟨i,hi,rfl⟩:=Za3 a;have:=h i hi;grind
theorem Qef:Ok EW:=okZ (V:=Vv) [] f18 Qkg trivial λy _=>by
 unfold Vv;have hl:((yi y).length:Int)=4:=rfl;have f:∀x,(yi y).getD x []=ke y x:=λ_=>rfl
 have g:(⟨false,0,0,0,0,0,0,0,0,0,0,[]⟩:b5)=fl:=rfl;have no:∀{x},x<4->qt (ke y x)≠true->false=lB y:=λd h=>(Bool.eq_false_iff.2 λe=>h (((yj y).1 e).1 _ d)).symm
 have hi:∀{x:Nat},x<100->aD .i64 (x:Int) 1=((x+1:Nat):Int):=λh=>bG ω ω
 simp only[bh,bN,aw,hl,di,Zad,f,g];refine⟨⟨0,rfl,rfl,Zaj _,λj c=>absurd c (Zbo j)⟩,λx d=>⟨λh1=>⟨ω,h1,λn=>no (x:=x) ω λh=>?_,λn=>⟨x,⟨0,rfl,Zaj _,λj c=>absurd c (Zbo j)⟩,λk hk=>⟨ω,h1,λm=>⟨ω,h1,ω,m,λf=>no (x:=x) ω λh=>?_,λf=>⟨k+1,hi ω,⟨ω,λj c=>?_⟩,ω⟩⟩,λm=>⟨x+1,hi ω,⟨ω,λj c=>?_⟩,ω⟩⟩⟩⟩,λh1=>?_⟩⟩
 ·have:=((sE _).1 h).1;omega
 ·have:=((sE _).1 h).2 k ω;omega
 ·have c:j<k+1:=c;by_cases e:j=k
  ·subst e;omega
  ·exact hk.2 j (by show j<k;omega)
 ·have c:j<x+1:=c;by_cases e:j=x
  ·rw[e,sE];exact⟨ω,λi hi=>hk.2 i (by show i<k;omega)⟩
  ·exact d.2 j (by show j<x;omega)
 ·have l:x=4:=ω;have o:∀j,j<4->qt (ke y j):=λj c=>d.2 j (by rw[l];exact c)
  have hs:=yj y;refine⟨λa=>⟨λb=>?_,λb=>?_⟩,λa=>?_⟩
  all_goals
   rw[ZaG,hs];grind
theorem VC {p:ej} {x:Nat} (h:x<p.aj.length):jZ p x++[jV (p.aj.getD x 0)]=jZ p (x+1):=by
 unfold jZ;rw[show p.aj.getD x 0=p.aj[x] by grind,<-List.map_singleton,<-ZcG,Zb4 h]
def Qkt:Ok Vp:=okZ (V:=QbS) [ρ] f168 Qsn U5 λ(y:ej) c=>by
 have⟨h1,d,e⟩:og y:=c;have hlen:∀x,(jZ y x).length<=y.aj.length:=λx=>by unfold jZ;simp;omega
 unfold QbS;simp only[bh,bN,br,a8,aw,di,Zad];refine⟨⟨0,rfl,rfl,Zaj _⟩,λx f=>⟨λk=>?_,λk=>?_⟩⟩
 ·have b:x<y.aj.length:=ω;have a:=VC b;unfold jV at a;have:=hlen x;exact⟨ω,k,by rw[Zab];simp;omega,x+1,bG ω ω,a,ω,ω⟩
 ·rw[show x=y.aj.length by omega]
def Qku:Ok ϒ:=okZ (V:=QbT) [Vp] f108 (λ_=>dr ()) Qkt λ(y:ej) a=>by
 unfold QbT;simp only[bh];exact a
def Qkv:Ok ϓ:=okZ (V:=QbU) [ϒ] f71 (λ_=>dr ()) Qku λ(y:jU) c=>by
 have⟨h1,b⟩:og y.p/\og y.q:=c;unfold QbU iW;simp only[bh,fN];refine⟨h1,λa=>⟨b,?_⟩,λa=>?_⟩
 ·rw[Zac a];exact⟨rfl,rfl,rfl⟩
 ·rw[Zaa (by simp[a])];exact⟨rfl,rfl,rfl⟩
def Qkw:Ok ϔ:=okZ (V:=QbV) [ϓ] f26 (λ_=>dr ()) Qkv λy b=>by
 unfold QbV;simp only[bh,fN];refine⟨b,λa=>?_,λa=>?_⟩<;>exact⟨by simp[dq,a],by simp[dq,a],rfl,rfl,rfl⟩
def Qeg (y:iX):ij:=⟨y.ru,y.st.pos,y.st.bd,y.st.aZ,y.st.size,y.st.bO,List.map jR y.st.aS,Γ (sD y.ru.p y.ay),Γ (sD y.ru.q y.aM),Γ (sD y.ru.p y.aT)⟩
def g_ (y:iX):Option kn:=if eL y=true then if y.st.eI=true then some .o else if iW y.ru=true then some .c else some .n else none
def lI (y:iX×Option kn):Prop:=Iz y.1/\gA (y.1.ru,iW y.1.ru)/\y.2=g_ y.1
def uW:bk D:=⟨21,iX×Option kn,λa s=>match a with
 | [r,x]=>aA (Qd6 r x s) λy=>.split (eL y) (.split y.st.eI (.ret (y,some .o)) (.split (iW y.ru) (.ret (y,some .c)) (.ret (y,some .n)))) (.ret (y,none))
 | _=>.fail,lI,λy=>[.ptr 0 0,wsA y.1],λy=>Ey y.1.ru,λy=>match y.2 with
 | some _=>.tuple [.ptr 3 0,.num .i64 0]
 | none=>.tuple [.fC,.num .i64 4],λy=>match y.2 with
 | some f=>xS f 4 (Qeg y.1)
 | none=>Ey y.1.ru,3,25⟩
def VD (y:uW.Y):cU D:=match Prod.snd y with
 | none=>⟨[],[],[],[],1,[]⟩
 | some .o=>⟨[],[],[],[],1,[]⟩
 | some _=>⟨[(7,.y2 4 10 0),(7,.y2 4 11 0)],[],[],[],1,[]⟩
def VE:s6:=[Vd,HE,EV,Δ]
def Qkx (y:iX):Prop:=vc VE f21 uW VD (y,some .o)
def Qky (y:iX):Prop:=vc VE f21 uW VD (y,some .c)
def Qkz (y:iX):Prop:=vc VE f21 uW VD (y,some .n)
def QkA (y:iX):Prop:=vc VE f21 uW VD (y,none)
abbrev RA8 (v:uP) (p:Prop):Prop:=aa [v.pos] (aa [v.bd] (aa [v.bO] p))
def II (y:iX):Prop:=let l:=y.ay.h.length;let q1:=y.aT.h.length;let n:=y.aM.h.length;let i:=List.map jR y.st.aS;let b:=qM (y.ru.p.ae.length:Int);let j:=qM (y.ru.q.ae.length:Int);let o:=aC (ah y.st.aS) 0;let r:=ite (q1<=4) (q1:Int) 4;let s:=ite (l<=4) (l:Int) 4;let t:=ite (n<=4) (n:Int) 4;let c:=λp:Prop=>RAP y.st.aS p;let d:=λp:Prop=>RA2 y.ru.p (RA0 y.aT (RA2 y.ru.p (RA0 y.aT p)));let g:=λp:Prop=>RA2 y.ru.q (RA0 y.aM (RA2 y.ru.q (RA0 y.aM p)));let a:=λp:Prop=>RA8 y.st p;let e:=λp:Prop=>RA2 y.ru.p (RA0 y.ay (RA2 y.ru.p (RA0 y.ay p)));let u:=gJ (ja.mk (fZ.mk y.ru.p y.ay.m y.ay.L) y.ay.h);let A:=gJ (ja.mk (fZ.mk y.ru.p y.aT.m y.aT.L) y.aT.h);let f:Prop:=(c (Iv u/\e (ak y.st.eI (Iv A/\d (iA y.ru (False))) (iA y.ru (False)))));let k:Prop:=(RA2 y.ru.q (RAW y.aM.m (ah y.aM.L) (ah j) (ah fe) fe j y.aM.L (aa [bg y.aM.h 0,bg y.aM.h 1,bg y.aM.h 2,bg y.aM.h 3,t] (RA2 y.ru.p (RAW y.ay.m (ah y.ay.L) (ah b) (ah fe) fe b y.ay.L (aa [bg y.ay.h 0,bg y.ay.h 1,bg y.ay.h 2,bg y.ay.h 3,s] (RA2 y.ru.p (RAW y.aT.m (ah y.aT.L) (ah b) (ah fe) fe b y.aT.L (aa [bg y.aT.h 0,bg y.aT.h 1,bg y.aT.h 2,bg y.aT.h 3,r] (ey y.ru (True)))))))))));let B:=gJ (ja.mk (fZ.mk y.ru.q y.aM.m y.aM.L) y.aM.h);Iv (Iz y)/\RA3 y.st (RA0 y.aT (RA0 y.ay (RA0 y.aM (ey y.ru (ak (!(eL y)) (False) (ak (iW y.ru) (Iv (gA (y.ru,true))/\ey y.ru (ak o (Iv (oC (y.st.aS,true))/\c (Iv u/\e (Iv B/\g (ak y.st.eI (Iv A/\d (iA y.ru (a (y.st.eI=true/\aa [y.st.aZ,y.st.size] ([]=i/\k))))) (iA y.ru (a (y.st.eI=true/\aa [y.st.aZ,y.st.size] ([]=i/\False)))))))) (Iv (oC (y.st.aS,false))/\c (Iv u/\e (Iv B/\g (ak y.st.eI (Iv A/\d (iA y.ru (a (y.st.eI=true/\aa [y.st.aZ,y.st.size] (aa [i] (aa [y.ru.q.ae] (aa [y.ru.q.aj] (aa [y.aM.m,ah y.aM.L,ah j,ah fe] (aa [fe] (aa [j] (aa [y.aM.L] (aa [bg y.aM.h 0,bg y.aM.h 1,bg y.aM.h 2,bg y.aM.h 3,t] (aa [y.ru.p.ae] (aa [y.ru.p.aj] (aa [y.ay.m,ah y.ay.L,ah b,ah fe] (aa [fe] (aa [b] (aa [y.ay.L] (aa [bg y.ay.h 0,bg y.ay.h 1,bg y.ay.h 2,bg y.ay.h 3,s] (aa [y.ru.p.ae] (aa [y.ru.p.aj] (aa [y.aT.m,ah y.aT.L,ah b,ah fe] (aa [fe] (aa [b] (aa [y.aT.L] (aa [bg y.aT.h 0,bg y.aT.h 1,bg y.aT.h 2,bg y.aT.h 3,r] (ey y.ru (True)))))))))))))))))))))))))))) (iA y.ru (a (y.st.eI=true/\aa [y.st.aZ,y.st.size] (aa [i] (False))))))))))) (Iv (gA (y.ru,false))/\ey y.ru (ak o (Iv (oC (y.st.aS,true))/\f) (Iv (oC (y.st.aS,false))/\f)))))))))
def VF:∀y,II y=Qkx y:=λy=>by kernel_rfl
def IJ (y:iX):Prop:=let g:=y.ay.h.length;let q1:=y.aM.h.length;let i:=qM (y.ru.p.ae.length:Int);let j:=qM (y.ru.q.ae.length:Int);let k:=aC (ah y.st.aS) 0;let l:=ite (g<=4) (g:Int) 4;let n:=ite (q1<=4) (q1:Int) 4;let e:=λp:Prop=>RA2 y.ru.p (RA0 y.aT (RA2 y.ru.p (RA0 y.aT p)));let f:=λp:Prop=>RAP y.st.aS p;let d:=λp:Prop=>RA8 y.st p;let a:=λp:Prop=>RA2 y.ru.p (RA0 y.ay (RA2 y.ru.p (RA0 y.ay p)));let c:=λp:Prop=>RA2 y.ru.q (RA0 y.aM (RA2 y.ru.q (RA0 y.aM p)));let u:=gJ (ja.mk (fZ.mk y.ru.p y.ay.m y.ay.L) y.ay.h);let A:=gJ (ja.mk (fZ.mk y.ru.p y.aT.m y.aT.L) y.aT.h);let b:Prop:=(f (Iv u/\a (ak y.st.eI (Iv A/\e (iA y.ru (False))) (iA y.ru (False)))));let B:=iA y.ru (d (y.st.eI=false/\False));let F:=gJ (ja.mk (fZ.mk y.ru.q y.aM.m y.aM.L) y.aM.h);Iv (Iz y)/\RA3 y.st (RA0 y.aT (RA0 y.ay (RA0 y.aM (ey y.ru (ak (!(eL y)) (False) (ak (iW y.ru) (Iv (gA (y.ru,true))/\ey y.ru (aC y.st.aZ 0/\aC y.st.size 0/\ak k (Iv (oC (y.st.aS,true))/\f (Iv u/\a (Iv F/\c (ak y.st.eI (Iv A/\e B) (iA y.ru (d (y.st.eI=false/\aa [y.ru.q.ae] (aa [y.ru.q.aj] (aa [y.aM.m,ah y.aM.L,ah j,ah fe] (aa [fe] (aa [j] (aa [y.aM.L] (aa [bg y.aM.h 0,bg y.aM.h 1,bg y.aM.h 2,bg y.aM.h 3,n] (aa [y.ru.p.ae] (aa [y.ru.p.aj] (aa [y.ay.m,ah y.ay.L,ah i,ah fe] (aa [fe] (aa [i] (aa [y.ay.L] (aa [bg y.ay.h 0,bg y.ay.h 1,bg y.ay.h 2,bg y.ay.h 3,l] (ey y.ru (True)))))))))))))))))))))) (Iv (oC (y.st.aS,false))/\f (Iv u/\a (Iv F/\c (ak y.st.eI (Iv A/\e B) B)))))) (Iv (gA (y.ru,false))/\ey y.ru (aC y.st.aZ 0/\aC y.st.size 0/\ak k (Iv (oC (y.st.aS,true))/\b) (Iv (oC (y.st.aS,false))/\b)))))))))
def VG:∀y,IJ y=Qky y:=λy=>by kernel_rfl
def IK (y:iX):Prop:=let e:=y.ay.h.length;let q1:=qM (y.ru.p.ae.length:Int);let f:=aC (ah y.st.aS) 0;let i:=ite (e<=4) (e:Int) 4;let b:=λp:Prop=>RA2 y.ru.p (RA0 y.ay (RA2 y.ru.p (RA0 y.ay p)));let c:=λp:Prop=>RAP y.st.aS p;let d:=λp:Prop=>RA2 y.ru.p (RA0 y.aT (RA2 y.ru.p (RA0 y.aT p)));let a:=λp:Prop=>RA8 y.st p;let u:=gJ (ja.mk (fZ.mk y.ru.p y.ay.m y.ay.L) y.ay.h);let A:=gJ (ja.mk (fZ.mk y.ru.p y.aT.m y.aT.L) y.aT.h);let g:Prop:=(c (Iv u/\b (Iv (gJ (ja.mk (fZ.mk y.ru.q y.aM.m y.aM.L) y.aM.h))/\RA2 y.ru.q (RA0 y.aM (RA2 y.ru.q (RA0 y.aM (ak y.st.eI (Iv A/\d (iA y.ru (False))) (iA y.ru (False)))))))));let B:=iA y.ru (a (y.st.eI=false/\False));Iv (Iz y)/\RA3 y.st (RA0 y.aT (RA0 y.ay (RA0 y.aM (ey y.ru (ak (!(eL y)) (False) (ak (iW y.ru) (Iv (gA (y.ru,true))/\ey y.ru (aC y.st.aZ 0/\aC y.st.size 0/\ak f (Iv (oC (y.st.aS,true))/\g) (Iv (oC (y.st.aS,false))/\g))) (Iv (gA (y.ru,false))/\ey y.ru (aC y.st.aZ 0/\aC y.st.size 0/\ak f (Iv (oC (y.st.aS,true))/\c (Iv u/\b (ak y.st.eI (Iv A/\d B) (iA y.ru (a (y.st.eI=false/\aa [y.ru.p.ae] (aa [y.ru.p.aj] (aa [y.ay.m,ah y.ay.L,ah q1,ah fe] (aa [fe] (aa [q1] (aa [y.ay.L] (aa [bg y.ay.h 0,bg y.ay.h 1,bg y.ay.h 2,bg y.ay.h 3,i] (ey y.ru (True)))))))))))))) (Iv (oC (y.st.aS,false))/\c (Iv u/\b (ak y.st.eI (Iv A/\d B) B)))))))))))
def VH:∀y,IK y=Qkz y:=λy=>by kernel_rfl
def IL (y:iX):Prop:=let a:=aC (ah y.st.aS) 0;let e:=λp:Prop=>RA2 y.ru.p (RA0 y.ay (RA2 y.ru.p (RA0 y.ay p)));let b:Prop:=(ak y.st.eI (Iv (gJ (ja.mk (fZ.mk y.ru.p y.aT.m y.aT.L) y.aT.h))/\RA2 y.ru.p (RA0 y.aT (RA2 y.ru.p (RA0 y.aT (False))))) (False));let u:=gJ (ja.mk (fZ.mk y.ru.p y.ay.m y.ay.L) y.ay.h);let c:Prop:=(RAP y.st.aS (Iv u/\e (b)));let d:Prop:=(RAP y.st.aS (Iv u/\e (Iv (gJ (ja.mk (fZ.mk y.ru.q y.aM.m y.aM.L) y.aM.h))/\aa [y.ru.q.ae] (aa [y.ru.q.aj] (aa [y.aM.h] (aa [y.aM.m] (aa [y.aM.L] (aa [y.ru.q.ae] (aa [y.ru.q.aj] (aa [y.aM.h] (aa [y.aM.m] (aa [y.aM.L] (b)))))))))))));Iv (Iz y)/\RA3 y.st (RA0 y.aT (RA0 y.ay (RA0 y.aM (ey y.ru (ak (!(eL y)) (ey y.ru (True)) (ak (iW y.ru) (Iv (gA (y.ru,true))/\ey y.ru (ak a (Iv (oC (y.st.aS,true))/\d) (Iv (oC (y.st.aS,false))/\d))) (Iv (gA (y.ru,false))/\ey y.ru (ak a (Iv (oC (y.st.aS,true))/\c) (Iv (oC (y.st.aS,false))/\c)))))))))
def VI:∀y,IL y=QkA y:=λy=>by kernel_rfl
theorem EX {y:iX} (h:eL y) (a:y.st.eI):iW y.ru/\gg ⟨y.st.aS,ah y.ru.s.r,y.st.size⟩/\ES (sD y.ru.p y.ay)/\ES (sD y.ru.q y.aM)/\ES (sD y.ru.p y.aT):=by
 grind [eL,Vc,EU,aJ,wsT,lx]
def Cj {y:iX} {f:Option kn} (h:lI (y,f)):Iz y/\gA (y.ru,iW y.ru)/\f=g_ y/\oC (y.st.aS,aC (ah y.st.aS) 0):=⟨h.1,h.2.1,h.2.2,h.1.2.2.2.2,rfl⟩
theorem QkB (y:iX) (e:uW.pre (y,some .o)):II y:=by
 obtain⟨h1,g,i,k⟩:=Cj e;have hw:eL y:=by grind [g_]
 have d:y.st.eI:=by grind [g_]
 obtain⟨a,f,e2,b,c⟩:=EX hw d;rw[a] at g;have j:gJ (ja.mk (fZ.mk y.ru.p y.ay.m y.ay.L) y.ay.h):=⟨h1.1,e2⟩;have a2:gJ (ja.mk (fZ.mk y.ru.q y.aM.m y.aM.L) y.aM.h):=⟨h1.2.2.2.1 a,b⟩;have a3:gJ (ja.mk (fZ.mk y.ru.p y.aT.m y.aT.L) y.aT.h):=⟨h1.2.1,c⟩;have l:aC (ah y.st.aS) 0->[]=List.map jR y.st.aS:=λh=>by
  have:y.st.aS=[]:=by simpa [aC,ah] using h
  rw[this];rfl
 unfold II;clear e i f e2 b c;simp only[nS,fN,bh,hw,d,a] at*
 with_reducible repeat' first | assumption | apply And.intro | intro _
 all_goals simp_all
theorem QkC (y:iX) (e:uW.pre (y,some .c)):IJ y:=by
 obtain⟨h1,g,i,j⟩:=Cj e;have hw:eL y:=by grind [g_]
 have k:y.st.eI=false:=by grind [g_]
 have a:iW y.ru:=by grind [g_]
 obtain⟨n,e2,f,b,d⟩:=n_ hw k;rw[a] at g;have l:gJ (ja.mk (fZ.mk y.ru.p y.ay.m y.ay.L) y.ay.h):=⟨h1.1,b⟩;have a2:gJ (ja.mk (fZ.mk y.ru.q y.aM.m y.aM.L) y.aM.h):=⟨h1.2.2.2.1 a,d a⟩;rw[f] at j;unfold IJ;clear e i b d;simp only[fN,fB]
 with_reducible repeat' first | assumption | apply And.intro | intro _
 all_goals simp_all
theorem QkD (y:iX) (b:uW.pre (y,some .n)):IK y:=by
 obtain⟨h1,e,f,g⟩:=Cj b;have hw:eL y:=by grind [g_]
 have j:y.st.eI=false:=by grind [g_]
 have i:iW y.ru=false:=by grind [g_]
 obtain⟨l,e2,c,a,d⟩:=n_ hw j;rw[i] at e;have k:gJ (ja.mk (fZ.mk y.ru.p y.ay.m y.ay.L) y.ay.h):=⟨h1.1,a⟩;rw[c] at g;unfold IK;clear b f a d;simp only[fN,fB]
 with_reducible repeat' first | assumption | apply And.intro | intro _
 all_goals simp_all
theorem QkE (y:iX) (a:uW.pre (y,none)):IL y:=by
 obtain⟨h1,b,c,d⟩:=Cj a;have hw:eL y=false:=by grind [g_]
 unfold IL;simp only[nS,fN,bh,hw] at*
 with_reducible repeat' first | assumption | apply And.intro | intro _
 all_goals simp_all
theorem QkF (b:Ok cK):Ok uW:=cn (V:=λy=>vc VE f21 uW VD y) (λ_=>rfl) ⟨QbG b,Qbo b,Qkb,QjL b⟩ λ⟨y,f⟩ d=>match f,d with
 | some .o,h=>Eq.mp (VF y) (QkB y h)
 | some .c,h=>Eq.mp (VG y) (QkC y h)
 | some .n,h=>Eq.mp (VH y) (QkD y h)
 | none,h=>Eq.mp (VI y) (QkE y h)
 | some .p,h=>by have:=h.2.2;grind [g_]
 | some .a,h=>by have:=h.2.2;grind [g_]
structure WtY where
 n:Int
 lo:Int
 hi:Int
structure TxY where
 l:List PV
 QuO:Int
variable {Z Y:Nat} {X:Nat->List aV}
def iz (y:cF):cF:=⟨if 3<y.r.length then y.r.take 3 else y.r,y.c⟩
def Wi (y:cF):Bool:=oz (iz y)
def ri (y:cF×Bool):Prop:=y.2=Wi y.1
def dD (y:cF):jU:=lk ⟨iz y,⟨(bY (iz y)).ae,(bY (iz y)).st⟩,⟨(bY (iz y)).cc,(bY (iz y)).cs⟩,(bs (iz y)).tab⟩
def NS:bk D:=⟨17,cF×Bool,B7 Wi,ri,λy=>[HD y.1],λ_=>[],
 λy=>match y.2 with
  | true=>.tuple [.ptr 0 0,.ptr 3 0,.lit true]
  | false=>.tuple [.fC,.fC,.lit true],
 λy=>match y.2 with
  | true=>Ey (dD y.1)++[ruO 3 (iz y.1) (bY (iz y.1))]
  | false=>[],0,4⟩
def QkG (y:NS.Y):cU D:=⟨[],[],[],[(3,⟨Unit,[],λ_=>[(1,.ptr 0 0)],[],λ_=>[(0,.cells [.list 3 (iz y.1).r,.str y.1.c] 24 false)],1,λ_=>True,λ_=>0⟩)],1,[]⟩
def Qeh:bk D:=bP 19 Unit (λ_ _=>.ret ()) (λ_=>True) (λ_=>[]) λ_=>.lit true
def IM (y:cF):Prop:=let e:=bY (iz y);let q1:=ite (3<y.r.length) (List.take 3 y.r) y.r;let a:=cF.mk q1 y.c;let b:=bY a;let f:=aC b.au b.au;let d:=λp:Prop=>RAQ q1 y.c p;(ak (az 3 (ah y.r)) (Tt 1 (aI 3 (ah y.r)/\∃z:Unit,dv y.r 3=q1/\RAP y.c ((Iv True)))) (∃z:Unit,y.r=q1/\RAP y.c ((Iv True))))/\(∀x:Unit,(Iv True)->ak (oz a) (Iv (qo (a,true))/\d (ak (oz a) (Iv (qo (a,true))/\d (ak (aC 0 0) (d (b.ae=e.ae/\b.st=e.st/\b.cc=e.cc/\b.cs=e.cs/\aa [!(seq y.c [])] (q1=(dD y).s.r/\y.c=(dD y).s.c/\b.ae=(dD y).p.ae/\b.st=(dD y).p.aj/\b.cc=(dD y).q.ae/\b.cs=(dD y).q.aj/\ah (bs a).tab=ah (dD y).t/\(bs a).tab=(dD y).t/\True))) (False))) (Iv (qo (a,false))/\d (ak (aC 0 b.au) (False) (False))))) (Iv (qo (a,false))/\d (ak (oz a) (Iv (qo (a,true))/\d (ak (aC b.au 0) (False) (False))) (Iv (qo (a,false))/\d (ak f (False) (False))))))
def IN (y:cF):Prop:=let b:=ite (3<y.r.length) (List.take 3 y.r) y.r;let q1:=cF.mk b y.c;let d:=aC 0 (bY q1).au;let e:=aC (bY q1).au 0;let f:=aC (bY q1).au (bY q1).au;let a:=λp:Prop=>RAQ b y.c p;(ak (az 3 (ah y.r)) (Tt 1 (aI 3 (ah y.r)/\∃z:Unit,dv y.r 3=b/\RAP y.c ((Iv True)))) (∃z:Unit,y.r=b/\RAP y.c ((Iv True))))/\(∀x:Unit,(Iv True)->ak (oz q1) (Iv (qo (q1,true))/\a (ak (oz q1) (Iv (qo (q1,true))/\a (ak (aC 0 0) (False) (False))) (Iv (qo (q1,false))/\a (ak d (False) (False))))) (Iv (qo (q1,false))/\a (ak (oz q1) (Iv (qo (q1,true))/\a (ak e (False) (False))) (Iv (qo (q1,false))/\a (ak f (True) (False))))))
theorem Lk (y:cF):(az 3 (ah y.r)->aI 3 (ah y.r)/\dv y.r 3=(if 3<y.r.length then y.r.take 3 else y.r))/\(az 3 (ah y.r)=false->y.r=(if 3<y.r.length then y.r.take 3 else y.r)):=by
 rw[eV,mI,gx,aw];refine⟨λh=>⟨ω,by rw[Zac ω];rfl⟩,λh=>by grind⟩
theorem Ck (y:cF):(iz y).r.length<=3:=by
 grind [iz]
theorem QkJ (y:cF) (a:ri (y,true)):IM y:=by
 have a:true=oz (iz y):=a;have hl:=Ck y;grind [Lk,qo,iz,IM,dD,aJ]
theorem QkK (y:cF) (a:ri (y,false)):IN y:=by
 have a:false=oz (iz y):=a;grind [Lk,qo,iz,IN]
def QkL (hl:Ok xR) (a:Ok yS):Ok NS:=QtT (k:=NS) (T:=IM) (F:=IN) [xR,yS] f17 QkG id id (λ_=>rfl) ⟨hl,a⟩ QkJ QkK
def nm (lo hi:Nat) (x:aV):Prop:=x.bm.length<=1000000/\((x.op=1/\x.x=0/\x.y=0/\x.bm=aX x.bm)\/(x.op=2/\(lo:Int)<=x.x/\x.x<=hi/\(lo:Int)<=x.y/\x.y<=hi/\x.bm=[])\/(x.op=3/\(lo:Int)<=x.x/\x.x<=hi/\x.y=0/\x.bm=[])\/(x.op=4/\0<=x.x/\x.x<10/\x.y=0/\x.bm=[])\/((x.op=5\/x.op=6)/\x.x=0/\x.y=0/\x.bm=[]))
def nm.mono {i g:Nat} {x:aV} (h:nm Z Y x) (h1:i<=Z) (j:Y<=g):nm i g x:=by
 obtain⟨h0,h | ⟨a,b,c,d,e,f⟩ | ⟨a,b,c,d⟩ | h | h⟩:=h
 ·exact⟨h0,.inl h⟩
 ·exact⟨h0,.inr (.inl ⟨a,ω,ω,ω,ω,f⟩)⟩
 ·exact⟨h0,.inr (.inr (.inl ⟨a,ω,ω,d⟩))⟩
 ·exact⟨h0,.inr (.inr (.inr (.inl h)))⟩
 ·exact⟨h0,.inr (.inr (.inr (.inr h)))⟩
theorem EY {b out:Nat} (lz:Bool) (h1:Z<=b) (a:b+1<=Y) (c:Z<=out) (d:out<=Y):nm Z Y (gY lz b out):=by
 unfold gY;split<;>exact⟨Zaj _,.inr (.inl ⟨rfl,by grind,by grind,by grind,by grind,rfl⟩)⟩
theorem Ll (a:∀b,∀x∈X b,nm b (b+Z) x):∀(n b:Nat),∀x∈ie X Z n b,nm b (b+n*Z) x
 | 0,b,x,h=>nomatch h
 | n+1,b,x,h=>by
  have e:b+Z+n*Z=b+(n+1)*Z:=by grind
  rcases Zax.1 h with h | h
  ·exact(a b x h).mono ω ω
  ·exact(Ll a n _ x h).mono ω ω
theorem Lm {lz:Bool} (a:∀b,∀x∈X b,nm b (b+Z) x):∀(n b:Nat),b+n*(Z+1)<=Y->∀x∈fo (λi=>gY lz i Y) X Z n b,nm b Y x
 | 0,b,_,x,h=>nomatch h
 | n+1,b,c,x,h=>by
  have e:b+1+Z+n*(Z+1)=b+(n+1)*(Z+1):=by grind
  rcases Zbf.1 h with rfl | h
  ·grind [EY]
  ·rcases Zax.1 h with h | h
   ·exact(a _ x h).mono ω ω
   ·exact(Lm a n _ ω x h).mono ω ω
def NdT (t:ai):Prop:=∀x∈aE t,iN x
def NdL (l:List ai):Prop:=∀x∈aB l,iN x
mutual
theorem Cl:∀(t:ai) (b:Nat),kA t->NdT t->∀x∈bT t b,nm b (b+bt t) x
 | .mk op r mn mx lz cap nk ks,b,h,hn,x,hx=>by
  rw[kA] at h
  obtain⟨⟨g,hw⟩,_,h3⟩:=h
  have hn1:iN ⟨op,r,mn,mx,lz,cap,ks.length⟩:=hn _ (by rw[aE];exact Za8 ..)
  have hn2:NdL ks:=λy hy=>hn y (by rw[aE];exact ZaU _ hy)
  have hl:=λb=>EZ ks b h3 hn2
  have hll:=λb=>nc ks b h3
  rw[bT] at hx
  rw[bt]
  unfold pf
  unfold cj at hw
  by_cases h2:op=2
  ·simp[h2] at hx hw ⊢
   subst hx
   refine⟨hn1,.inl ⟨rfl,rfl,rfl,?_⟩⟩
   split at hw
   ·cases hw
   ·exact(by simpa using hw:_/\_).2
  ·by_cases h7:op=7
   ·simp[h7] at hx ⊢
    subst hx
    exact⟨Zaj _,.inr (.inr (.inr (.inr ⟨.inl rfl,rfl,rfl,rfl⟩)))⟩
   ·by_cases h8:op=8
    ·simp[h8] at hx ⊢
     subst hx
     exact⟨Zaj _,.inr (.inr (.inr (.inr ⟨.inr rfl,rfl,rfl,rfl⟩)))⟩
    ·by_cases h3':op=3
     ·simp[h3'] at hx ⊢
      exact hl b x hx
     ·by_cases h4:op=4
      ·simp[h4] at hx ⊢
       exact(Ln ks b _ h3 hn2 (Zah _) x hx).mono (Zah _) ω
      ·by_cases h5:op=5
       ·subst h5
        simp only[show ¬((5:Int)=2) by decide,show ¬((5:Int)=7) by decide,show ¬((5:Int)=8) by decide,show ¬((5:Int)=3) by decide,show ¬((5:Int)=4) by decide,show ¬((5:Int)=6) by decide,Za0,Zbv,or_self] at hx ⊢
        unfold Hu at hx
        rcases Zax.1 hx with hx | hx
        ·refine(Ll hl _ _ x hx).mono (Zah _) ?_
         split<;>omega
        ·split at hx
         ·rename_i hm
          rw[Zac hm]
          rcases Zbf.1 hx with rfl | hx
          ·exact EY lz ω ω ω ω
          ·rcases Zax.1 hx with hx | hx
           ·exact(hl _ x hx).mono ω ω
           ·rw[ZaI.1 hx]
            exact⟨Zaj _,.inr (.inr (.inl ⟨rfl,by simp only;omega,by simp only;omega,rfl,rfl⟩))⟩
         ·rename_i hm
          rw[Zaa hm]
          unfold la at hx
          refine(Lm hl _ _ ?_ x hx).mono ω ω
          omega
       ·by_cases h6:op=6
        ·simp[h6] at hx hw ⊢
         have hc:1<=cap/\cap<=4:=by
          split at hw
          ·cases hw
          ·have:=(by simpa using hw:_/\_)
           omega
         rcases hx with rfl | hx | rfl
         ·exact⟨Zaj _,.inr (.inr (.inr (.inl ⟨rfl,by simp only;omega,by simp only;omega,rfl,rfl⟩)))⟩
         ·exact(hl _ x hx).mono ω ω
         ·exact⟨Zaj _,.inr (.inr (.inr (.inl ⟨rfl,by simp only;omega,by simp only;omega,rfl,rfl⟩)))⟩
        ·simp[h2,h7,h8,h3',h4,h5,h6] at hx
theorem EZ:∀(l:List ai) (b:Nat),na l->NdL l->∀x∈bu l b,nm b (b+aO l) x
 | [],b,_,_,x,hx=>by rw[bu] at hx;cases hx
 | t::l,b,h,hn,x,hx=>by
  rw[na] at h
  rw[bu] at hx
  rw[aO]
  rcases Zax.1 hx with hx | hx
  ·exact(Cl t b h.1 (λy hy=>hn y (by rw[aB];exact Zay _ hy)) x hx).mono (Zah _) ω
  ·exact(EZ l _ h.2 (λy hy=>hn y (by rw[aB];exact ZaC _ hy)) x hx).mono ω ω
theorem Ln:∀(l:List ai) (b e:Nat),na l->NdL l->b+aO l+2*(l.length-1)<=e->∀x∈km l b e,nm b e x
 | [],b,e,_,_,_,x,hx=>by rw[km] at hx;cases hx
 | t::l,b,e,h,hn,he,x,hx=>by
  rw[na] at h
  rw[km] at hx
  rw[aO] at he
  have ht:=λb=>Cl t b h.1 (λy hy=>hn y (by rw[aB];exact Zay _ hy))
  have hl:=λb=>Ln l b e h.2 (λy hy=>hn y (by rw[aB];exact ZaC _ hy))
  cases l with
  | nil=>
   simp only[List.isEmpty_nil,Zbv] at hx
   exact(ht b x hx).mono (Zah _) ω
  | cons u l=>
   simp only[List.isEmpty_cons,ZaE,Za0] at hx
   simp only[Zae] at he hl
   rcases Zbf.1 hx with rfl | hx
   ·exact⟨Zaj _,.inr (.inl ⟨rfl,by simp only;omega,by simp only;omega,by simp only;omega,by simp only;omega,rfl⟩)⟩
   ·rcases Zax.1 hx with hx | hx
    ·exact(ht _ x hx).mono ω ω
    ·rcases Zbf.1 hx with rfl | hx
     ·exact⟨Zaj _,.inr (.inr (.inl ⟨rfl,by simp only;omega,by simp only;omega,rfl,rfl⟩))⟩
     ·exact(hl _ ω x hx).mono ω (Zah _)
end
variable {i:Nat} {c:List aV} {s:cF} {Z:List Int}
def Seg (c:List aV) (q lo hi:Nat):Prop:=lo<=hi/\hi<c.length/\c.getD hi cV=⟨7,q,0,[]⟩/\∀i,lo<=i->i<hi->nm lo hi (c.getD i cV)
def VL (c:List aV) (s:List Int) (r:Nat):Prop:=s.length=r/\(∀q,q<r->∃lo hi:Nat,s.getD q 0=lo/\Seg c q lo hi)/\∀i,i<c.length->∃q lo hi:Nat,q<r/\Seg c q lo hi/\lo<=i/\i<=hi
theorem VM {α:Type} (d:α) (a b:List α) (h:i<a.length):(a++b).getD i d=a.getD i d:=by
 grind
theorem NT {α:Type} (d:α) (a b:List α) (i:Nat):(a++b).getD (a.length+i) d=b.getD i d:=by
 grind
theorem Seg.app {lo hi:Nat} (h:Seg c i lo hi) (d:List aV):Seg (c++d) i lo hi:=by
 have⟨h1,e,f,g⟩:=h;refine⟨h1,by grind,by grind,λq a b=>?_⟩;grind
theorem Ϥ (c:List aV) {t:ai} (r:Nat) (h:kA t) (e:NdT t):Seg (c++qm t r c.length) r c.length (c.length+bt t+2):=by
 have hl:=iQ t (c.length+1) h;have f:qm t r c.length=(⟨4,0,0,[]⟩::(bT t (c.length+1)++[⟨4,1,0,[]⟩]))++[⟨7,r,0,[]⟩]:=by grind [qm]
 have g:((⟨4,0,0,[]⟩:aV)::(bT t (c.length+1)++[⟨4,1,0,[]⟩])).length=bt t+2:=by simp[hl]
 rw[f];refine⟨ω,by grind,?_,λi a b=>?_⟩
 ·grind
 ·obtain⟨k,rfl⟩:∃k,i=c.length+k:=⟨i-c.length,ω⟩;rw[NT,VM _ _ _ ω];have d:((⟨4,0,0,[]⟩:aV)::(bT t (c.length+1)++[⟨4,1,0,[]⟩])).getD k cV∈((⟨4,0,0,[]⟩:aV)::(bT t (c.length+1)++[⟨4,1,0,[]⟩])):=by
   grind
  generalize ((⟨4,0,0,[]⟩:aV)::(bT t (c.length+1)++[⟨4,1,0,[]⟩])).getD k cV=x at d ⊢;rcases Zbf.1 d with rfl | d
  ·exact⟨Zaj _,.inr (.inr (.inr (.inl ⟨rfl,by grind,by grind,rfl,rfl⟩)))⟩
  ·rcases Zax.1 d with d | d
   ·exact(Cl t _ h e x d).mono ω ω
   ·rw[ZaI.1 d];exact⟨Zaj _,.inr (.inr (.inr (.inl ⟨rfl,by grind,by grind,rfl,rfl⟩)))⟩
theorem VN {t:ai} (h:VL c Z i) (hw:kA t) (m:NdT t):VL (c++qm t i c.length) (Z++[(c.length:Int)]) (i+1):=by
 have⟨h1,k,l⟩:=h;have n:=Ϥ c i hw m;have hl:=iQ t (c.length+1) hw;refine⟨by simp[h1],λq o=>?_,λr hi=>?_⟩
 ·by_cases j:q<i
  ·have⟨lo,hi,e,hs⟩:=k q j;exact⟨lo,hi,by grind,hs.app _⟩
  ·grind
 ·by_cases g:r<c.length
  ·have⟨q,lo,f,a,b,d,e⟩:=l r g;exact⟨q,lo,f,ω,b.app _,d,e⟩
  ·grind [qm]
theorem Lo:∀(l:List (List Nd)) (r:Nat) (c:List aV) (s:List Int),(∀x∈l,∀n∈x,iN n)->VL c s r->c.length<=400->(nf l r c s).2.1=0->VL (nf l r c s).1.1 (nf l r c s).1.2 (r+l.length)/\(nf l r c s).1.1.length<=400
 | [],r,c,s,_,h,f,_=>⟨h,f⟩
 | x::l,r,c,s,hn,h,f,he=>by
  rw[nf] at he ⊢;by_cases i:dL x=false
  ·grind
  ·rw[Zaa i] at he ⊢;have⟨t,d,k,m⟩:=jq (L:=x) (by grind);have ht:q_ x=t:=by
    have:=kk (a:=0) (r:=[]) d (show x.drop 0=aE t++[] by grind);assumption
   by_cases e:400<c.length+bt (q_ x)+3
   ·grind
   ·rw[Zaa e] at he ⊢;rw[ht] at he e ⊢;have b:NdT t:=λn g=>hn x (by simp) n (by grind)
    have hl:=iQ t (c.length+1) d;have:=Lo l (r+1) _ _ (λy j=>hn y (by simp[j])) (VN h d b) (by grind [qm]) he;grind
theorem tC {ae:List aV} {Q:Int->Prop} (h0:∀i,Q i->0<=i) (b:∀i,Q i->((ae.getD i.toNat cV).op=2->Q (ae.getD i.toNat cV).x/\Q (ae.getD i.toNat cV).y)/\((ae.getD i.toNat cV).op=3->Q (ae.getD i.toNat cV).x)/\((ae.getD i.toNat cV).op≠2->(ae.getD i.toNat cV).op≠3->(ae.getD i.toNat cV).op≠7->Q (i+1))):
  ∀(f:Nat) (s:List Bool) (l:List Int),(∀i:Nat,s.getD i false->Q i)->(∀i∈l,Q i)->∀i:Nat,(j8 ae f s l).getD i false->Q i
 | 0,s,l,hs,_=>hs
 | f+1,s,l,hs,hl=>by
  rw[j8];split
  ·exact hs
  ·have hi:Q (l.getD (l.length-1) 0):=by
    rw[Zag,Zaf ω];grind
   have hk:∀i∈l.take (l.length-1),Q i:=λi hi=>hl i (Zcg hi)
   simp only;generalize l.getD (l.length-1) 0=j at hi ⊢;generalize l.take (l.length-1)=k at hk ⊢;have c:=h0 j hi;have a:∀i:Nat,(s.set j.toNat true).getD i false->Q i:=λi h=>by
    by_cases e:i=j.toNat
    ·subst e;rw[show((j.toNat:Nat):Int)=j by omega];exact hi
    ·grind
   split
   ·exact tC h0 b f s k hs hk
   ·split
    ·refine tC h0 b f _ _ a λi h=>?_
     rcases Zax.1 h with h | h
     ·exact hk i h
     ·simp only[Zbf,Zds,Zdt] at h;rcases h with rfl | rfl
      ·grind
      ·grind
    ·split
     ·refine tC h0 b f _ _ a λi h=>?_
      grind
     ·split
      ·exact tC h0 b f _ k a hk
      ·rename_i d g m
       refine tC h0 b f _ _ a λi h=>?_
       grind
theorem ϥ (h:VL c Z i) (D:i<=8) (z:c.length<=400):qP ⟨c,Z⟩:=by
 have⟨h1,t,u⟩:=h;have hi:∀r,r<c.length->(∃q:Nat,q<i/\c.getD r cV=⟨7,q,0,[]⟩)\/(r+1<c.length/\nm 0 (c.length-1) (c.getD r cV)):=λr hi=>by
  have⟨q,lo,l,k,⟨p,a2,a3,a4⟩,A,E⟩:=u r hi;by_cases e:r=l
  ·grind
  ·exact .inr ⟨ω,(a4 r A ω).mono ω ω⟩
 refine⟨z,by grind,λr g=>?_,λx j=>?_,⟨by grind,λr g=>?_⟩,λq k=>?_⟩
 ·show DL (c.getD r cV) (decide ((r:Int)+1<(c.length:Int))) c.length Z.length
  have j:=hi r g;generalize c.getD r cV=x at j ⊢;unfold DL;rcases j with⟨q,k,e⟩ | ⟨w,h0,⟨o,a,b,d⟩ | ⟨o,a,b,d,e,f⟩ | ⟨o,a,b,d,e⟩ | ⟨o,a,b,d,e⟩ | ⟨o,a,b,d⟩⟩
  ·rw[e];simp[ia,h1];omega
  ·grind
  ·simp[o,f,ia];omega
  ·simp[o,d,e,ia];omega
  ·simp[o,d,e,ia];omega
  ·rcases o with o | o<;>(simp[o,a,b,d];omega)
 ·have⟨r,g,e⟩:=Za3 j;rcases hi r g with⟨q,k,B⟩ | ⟨_,h0,_⟩
  ·grind
  ·grind
 ·have j:=hi r g;show((c.getD r cV).op=2->0<=(c.getD r cV).x/\(c.getD r cV).x<c.length/\0<=(c.getD r cV).y/\(c.getD r cV).y<c.length)/\((c.getD r cV).op=3->0<=(c.getD r cV).x/\(c.getD r cV).x<c.length)/\((c.getD r cV).op≠2->(c.getD r cV).op≠3->(c.getD r cV).op≠7->r+1<c.length)
  rcases j with⟨q,k,e⟩ | ⟨w,h0,⟨o,a,b,d⟩ | ⟨o,a,b,d,e,f⟩ | ⟨o,a,b,d,e⟩ | ⟨o,a,b,d,e⟩ | ⟨o,a,b,d⟩⟩
  ·rw[e];simp
  ·omega
  ·omega
  ·omega
  ·omega
  ·omega
 ·have k:q<i:=by grind
  have⟨lo,l,e,p,a2,a3,a4⟩:=t q k;show 0<=Z.getD q 0/\Z.getD q 0<c.length/\∀r:Nat,r<c.length->(lF c (Z.getD q 0)).getD r false->(c.getD r cV).op=7->(c.getD r cV).x=q
  rw[e];refine⟨ω,ω,λr g m C=>?_⟩;have v:=tC (ae:=c) (Q:=λr=>(lo:Int)<=r/\r<=l) (λr h=>ω) (λr v=>by
   obtain⟨n,rfl⟩:=Zau (show 0<=r by omega);rw[Zad];by_cases en:n=l
   ·rw[en,a3];simp
   ·have j:=a4 n ω ω;generalize c.getD n cV=x at j ⊢;obtain⟨h0,⟨o,a,b,d⟩ | ⟨o,a,b,d,e,f⟩ | ⟨o,a,b,d,e⟩ | ⟨o,a,b,d,e⟩ | ⟨o,a,b,d⟩⟩:=j
    ·omega
    ·omega
    ·omega
    ·omega
    ·rcases o with o | o<;>(simp[o];omega)) (3*c.length+1) (JX c.length) [(lo:Int)] (λr h=>by
    unfold JX at h;rw[Zag,List.getElem?_replicate] at h;split at h<;>simp at h) (λr h=>by grind) r m
  by_cases en:r=l
  ·rw[en,a3]
  ·obtain⟨h0,⟨o,_⟩ | ⟨o,_⟩ | ⟨o,_⟩ | ⟨o,_⟩ | ⟨o | o,_⟩⟩:=a4 r ω ω<;>omega
theorem VO {l:List (List Nd)} (f:∀x∈l,∀n∈x,iN n) (c:(b6 l).2.1=0):qP ⟨(b6 l).1.1,(b6 l).1.2⟩/\(b6 l).1.2.length=l.length:=by
 have e:b6 l=Hy l:=by grind [b6,aJ]
 rw[e] at c ⊢;unfold Hy at c ⊢;split at c
 ·grind
 ·rename_i d
  rw[Zaa d];have⟨a,b⟩:=Lo l 0 [] [] f ⟨rfl,λq h=>absurd h ω,λi h=>absurd h (Zbo _)⟩ (Zaj _) c;rw[Za6] at a;exact⟨ϥ a ω b,a.1⟩
theorem Lp:∀(l:List rW) (i:Nat) (t:List Row) (o:List (List Nd)),(lX l i t o).au=0->(lX l i t o).out.length=o.length+l.length
 | [],i,t,o,_=>rfl
 | x::l,i,t,o,h=>by
  rw[lX] at h ⊢;split at h
  ·grind
  ·rename_i h1
   rw[Zaa h1];split at h
   ·grind
   ·rename_i a
    rw[Zaa a];split at h
    ·grind
    ·rename_i b
     rw[Zaa b,Lp l _ _ _ h];simp;omega
theorem Lq {y:cF} (hl:y.r.length<=1000) (h:oz y):qP ⟨(bY y).ae,(bY y).st⟩/\og ⟨(bY y).cc,(bY y).cs⟩/\(y.c≠[]->qP ⟨(bY y).cc,(bY y).cs⟩/\(bY y).cs.length=1)/\(bY y).st.length=y.r.length:=by
 have q:bY y=jr y:=by grind [bY,aJ]
 obtain⟨s,t⟩:(∀x∈(bs y).out,cA x)/\(bs y).out.length<=y.r.length:=by
  grind [vK,bs,aJ]
 have h0:(jr y).au=0:=by grind [oz]
 rw[q];by_cases h1:8<y.r.length
 ·grind [jr,KD]
 by_cases d:(bs y).au=0
 case neg=>rw[Um h1 d] at h0;exact absurd h0 d
 by_cases i:y.c≠[]/\(ck y.c).2.1≠0
 ·rw[Un h1 d i.1 i.2] at h0;exact absurd h0 i.2
 have f:y.c≠[]->(ck y.c).2.1=0:=λa=>Zch λb=>i ⟨a,b⟩
 by_cases g:(b6 (bs y).out).2.1=0
 case neg=>rw[Uo h1 d f g] at h0;exact absurd h0 g
 have m:=VO s g;have p:(bs y).out.length=y.r.length:=by
  have e:bs y=lX y.r 0 [] []:=aJ _;rw[e] at d ⊢;exact(Lp _ _ _ _ d).trans (Za6 _)
 by_cases j:y.c=[]
 ·rw[Ur h1 d f g j];exact⟨m.1,⟨Zaj _,Zaj _,λx n=>nomatch n⟩,λh=>absurd j h,m.2.trans p⟩
 ·by_cases k:(b6 [cL (ck y.c).1]).2.1=0
  ·rw[Uq h1 d f g j k];have o:=VO (l:=[cL (ck y.c).1]) (λx n=>by rw[ZaI.1 n];exact vJ (l9 _)) k;exact⟨m.1,o.1.pg,λ_=>⟨o.1,o.2⟩,m.2.trans p⟩
  ·rw[Up h1 d f g j k] at h0;exact absurd h0 k
theorem qP.cod {p:ej} (h:qP p):Qgn p.ae:=by
 refine⟨by have:=h.1;omega,λx a b=>?_⟩;obtain⟨i,hi,e⟩:=Za3 a;have hs:=h.2.2.1 i hi;have e2:p.ae.getD i cV=x:=by grind
 have hs:DL (p.ae.getD i cV) (decide ((i:Int)+1<(p.ae.length:Int))) p.ae.length p.aj.length:=hs;grind [DL,ia]
theorem E0 (h:Wi s):qP (dD s).p/\og (dD s).q/\(iW (dD s)->qP (dD s).q/\(dD s).q.aj.length=1):=by
 rw[show dD s=_ from aJ _];have⟨h1,b,d,_⟩:=Lq (y:=iz s) (by grind [Ck]) h;refine⟨h1,b,λa=>d λe=>?_⟩;have a:(!seq (iz s).c []):=a;grind
theorem Qei (h:Wi s):(dD s).p.aj.length=(dD s).s.r.length:=by
 rw[show dD s=_ from aJ _];exact(Lq (y:=iz s) (by grind [Ck]) h).2.2.2
def Qej {b:Bool} (h:Wi s) (a:b=iW (dD s)):gA (dD s,b):=⟨(E0 h).1,(E0 h).2.1,λk=>((E0 h).2.2 k).1,a⟩
def Wd.Q {s:qk} {N:Int} (h:Wd s N):scQ s:=⟨⟨h.1,by have:=h.2.1;omega⟩,h.2.2.2.1.2⟩
structure tD where
 s:cF
 x:vP
def tE (y:tD):iX:=⟨dD y.s,y.x.st,y.x.aT,y.x.ay,y.x.aM⟩
def iw (y:tD):Int:=dq (tE y)
def wlP (y:tD×Option kn):Prop:=y.2=g_ (tE y.1)
def Oh:bk D:=bP 5 (tD×Option kn) (λ_ _=>.fail) wlP (λy=>[HD y.1.s,Wh y.1.x]) λ_=>.lit true
def qf (y:tD):Prop:=Wi y.s/\lB y.x
def ft (y:tD):mc:=lk (if iW (dD y.s)=true then tB (dD y.s).q else NQ)
def Qst (n:Nat) (y:tD):Nat×AO D.E:=(n,.cells (cR (HG ⟨iw y,iw y,false,false,0,0,lS⟩ (ET NQ) (pq (bJ (dD y.s).p)) (ET (ft y)))) 35 false)
def wlS (y:tD):Nat×AO D.E:=(26,.cells (cR (Wh y.x)) 35 false)
def wlX (f:Option kn):List (Nat×AV D.E):=match f with
 | some _=>[(9,.ptr 3 0),(10,.num .i64 0)]
 | none=>[(9,.fC),(10,.num .i64 4)]
def wlH (f:Option kn) (y:tD):List (Nat×AO D.E):=match f with
 | some f=>xS f 4 (Qeg (tE y))
 | none=>Ey (dD y.s)
def wlZ (f:Option kn) (y:tD):List (Nat×AO D.E):=match f with
 | some f=>xS f 4 (Qeg (tE y))
 | none=>[]
def wlJ (f:Option kn) (y:tD) (sl:List (Nat×AV D.E)) (pc:List (Nat×AO D.E)):iF D:=⟨Unit,[],λ_=>[(3,.ptr 26 0),(8,.bool (eL (tE y)))]++sl++wlX f,[],λ_=>wlS y::pc,28,λ_=>qf y,λ_=>0⟩
def wlD (y:tD):Nat×AO D.E:=ruO 25 (iz y.s) (bY (iz y.s))
def wlO (y:Oh.Y):cU D:=⟨[],[],[],[(31,wlJ y.2 y.1 [(5,.ptr 0 0),(6,.ptr 25 0)] (wlD y.1::wlH y.2 y.1)),(63,wlJ y.2 y.1 [(5,.ptr 0 0),(6,.ptr 25 0),(11,.ptr 27 0),(12,.num .i64 0)] (wlD y.1::Qst 27 y.1::wlH y.2 y.1)),(127,wlJ y.2 y.1 [] (wlZ y.2 y.1))],1,[]⟩
def wlT:s6:=[NS,EW,Qeh,Vi,ϑ,uW,IE,Vd,ϔ,Ϗ,AP,Az,KE]
def Qsv (y:tD):Prop:=vc wlT Tryz.f5 Oh wlO (y,some .o)
def Qsw (y:tD):Prop:=vc wlT Tryz.f5 Oh wlO (y,some .c)
def Qsx (y:tD):Prop:=vc wlT Tryz.f5 Oh wlO (y,some .n)
def Qsy (y:tD):Prop:=vc wlT Tryz.f5 Oh wlO (y,none)
abbrev RAb {T0 T1 T2 T3 T4 T5 T6 T7 T8 T9 T10 T11:Type} (a:T0) (b:T1) (c:T2) (d:T3) (e:T4) (f:T5) (g:T6) (h:T7) (i:T8) (j:T9) (k:T10) (l:T11) (p:Prop):Prop:=aa [a] (aa [b] (aa [c] (aa [d] (aa [e] (aa [f] (aa [g] (aa [h] (aa [i] (aa [j] (aa [k] (aa [l] p)))))))))))
abbrev RA6 (v:LdR) (p:Prop):Prop:=aa [v.ae] (aa [v.st] (aa [v.cc] (aa [v.cs] p)))
def VP (y:tD):Prop:=let k:=eL (tE y);let q1:=dD y.s;let f:=bY (iz y.s);let q3:=bg y.x.aM.h 3;let q4:=y.x.ay.h.length;let q5:=bg y.x.ay.h 3;let q6:=bg y.x.ay.h 2;let q7:=bg y.x.ay.h 1;let q8:=bg y.x.ay.h 0;let q9:=y.x.aT.h.length;let w:=bg y.x.aT.h 3;let A:=bg y.x.aT.h 2;let B:=bg y.x.aT.h 1;let C:=bg y.x.aT.h 0;let D:=bg y.x.aM.h 2;let E:=bg y.x.aM.h 1;let S:=y.x.aM.h.length;let F:=bg y.x.aM.h 0;let i:=dj (bJ q1.p).d;let l:=List.map jR y.x.st.aS;let G:=ej.mk f.ae f.st;let j:=qM (q1.q.ae.length:Int);let H:=ej.mk f.cc f.cs;let e:=qM (q1.p.ae.length:Int);let I:=List.map jR l;let b:=iX.mk q1 y.x.st y.x.aT y.x.ay y.x.aM;let q26:=!(kE (eL b) k);let t:=ite (3<y.s.r.length) (List.take 3 y.s.r) y.s.r;let J:=ite (q9<=4) (q9:Int) 4;let K:=ite (q4<=4) (q4:Int) 4;let M:=ite (S<=4) (S:Int) 4;let T:=jU.mk (cF.mk t y.s.c) G H [];let U:=zV.mk F E D q3 M;let V:=zV.mk q8 q7 q6 q5 K;let W:=zV.mk C B A w J;let N:=dj W;let O:=dj V;let P:=dj U;let g:=iX.mk T y.x.st y.x.aT y.x.ay y.x.aM;let Q:=ite (iW T=true) (tB H) NQ;let Y:=λp:Prop=>RA3 y.x.st (RA0 y.x.aT (RA0 y.x.ay (RA0 y.x.aM (RAQ t y.s.c (RA6 f (aa [!(seq y.s.c [])] p))))));let u:=λp:Prop=>RA8 y.x.st (RAR y.x.st.aZ y.x.st.size l (RA2 q1.q (RAb y.x.aM.m (ah y.x.aM.L) (ah j) (ah fe) fe j y.x.aM.L F E D q3 M (RA2 q1.p (RAb y.x.ay.m (ah y.x.ay.L) (ah e) (ah fe) fe e y.x.ay.L q8 q7 q6 q5 K (RA2 q1.p (RAb y.x.aT.m (ah y.x.aT.L) (ah e) (ah fe) fe e y.x.aT.L C B A w J p)))))));let Z:=λp:Prop=>RAJ (RAE (RAG (RAP i (RA9 (bJ q1.p) p))));let r43:=λp:Prop=>RA8 y.x.st p;let a:=λp:Prop=>RA3 y.x.st (RA0 y.x.aT (RA0 y.x.ay (RA0 y.x.aM p)));let R:=λp:Prop=>RAD p;let X:Prop:=(RAQ t y.s.c (RA6 f (aa [!(seq y.s.c [])] (ey q1 (a ((Iv (qf y))))))));ak (Wi y.s) (Iv (ri (y.s,true))/\RA4 y.s (Iv True/\a (ak (!(lB y.x)) (Iv True/\True) (Iv (IA g)/\Y ((Iv (yT y.x)/\a (ak (eL b) (ak y.x.st.eI (Iv (lI (b,Option.some kn.o))/\a (ey q1 (∃z:Unit,eL g=k/\iA q1 (aa [y.x.st.pos,y.x.st.bd] (aa [y.x.st.bO] (aa [y.x.st.aZ,y.x.st.size] (aa [l] (aa [q1.q.ae] (aa [q1.q.aj] (aa [y.x.aM.m,ah y.x.aM.L,ah j,ah fe] (aa [fe] (aa [j] (aa [y.x.aM.L] (aa [F,E,D,q3,M] (aa [q1.p.ae] (aa [q1.p.aj] (aa [y.x.ay.m,ah y.x.ay.L,ah e,ah fe] (aa [fe] (aa [e] (aa [y.x.ay.L] (aa [q8,q7,q6,q5,K] (aa [q1.p.ae] (aa [q1.p.aj] (aa [y.x.aT.m,ah y.x.aT.L,ah e,ah fe] (aa [fe] (aa [e] (aa [y.x.aT.L] (aa [C,B,A,w,J] (aa [t] (aa [y.s.c] (aa [f.ae] (aa [f.st] (aa [f.cc] (aa [f.cs] (aa [!(seq y.s.c [])] (ey q1 (a ((Iv (qf y)))))))))))))))))))))))))))))))))))))))) (ak (iW q1) (Iv (lI (b,Option.some kn.c))/\a (ey q1 (∃z:Unit,eL g=k/\iA q1 (r43 (False))))) (Iv (lI (b,Option.some kn.n))/\a (ey q1 (∃z:Unit,eL g=k/\iA q1 (False)))))) (Iv (lI (b,Option.none))/\a (ey q1 (∃z:Unit,eL g=k/\False)))))/\(∀x:Unit,(Iv (qf y))->(ak (iW q1) (Iv (gA (q1,true))/\a (ey q1 (∃z:Unit,aa [k] (iA q1 (u (dq b=iw y/\dq b=iw y/\false=false/\false=false/\R ([]=lS/\Z (dj (bJ q1.q).d=(ft y).h/\(bJ q1.q).v.aF=(ft y).m/\(bJ q1.q).v.L=(ft y).L/\X)))))))) (Iv (gA (q1,false))/\a (ey q1 (∃z:Unit,aa [k] (iA q1 (u (dq b=iw y/\dq b=iw y/\false=false/\false=false/\R ([]=lS/\Z ([]=(ft y).h/\0=(ft y).m/\[]=(ft y).L/\X)))))))))/\(∀x1:Unit,(Iv (qf y))->(Iv (Iz b)/\a (ey q1 (ak q26 (a (False)) (Iv (og G/\og H)/\Y (Iv (yT (vP.mk (uP.mk (iw y) (iw y) false false 0 0 lS) (mc.mk [] 0 []) (mc.mk i (bJ q1.p).v.aF (bJ q1.p).v.L) (ft y)))/\aa [iw y,iw y] (false=false/\false=false/\aa ([0,0]:List Int) (aa [lS] (aa ([[]]:List (List UInt8)) (aa ([0]:List Int) (aa ([[]]:List (List b5)) (aa [i] (aa [(bJ q1.p).v.aF] (aa [(bJ q1.p).v.L] (aa [(ft y).h] (aa [(ft y).m] (aa [(ft y).L] (dq g=iw y/\dq g=iw y/\false=false/\false=false/\R ([]=lS/\aa ([[]]:List (List UInt8)) (aa ([0]:List Int) (aa ([[]]:List (List b5)) ([]=i/\0=(bJ q1.p).v.aF/\jZ G f.st.length=(bJ q1.p).v.L/\Q.h=(ft y).h/\Q.m=(ft y).m/\Q.L=(ft y).L/\aa [y.x.st.pos,y.x.st.bd] (aa [y.x.st.bO,y.x.st.eI] (aa [y.x.st.aZ,y.x.st.size] (aa [y.x.st.aS] (aa [y.x.aT.h] (aa [y.x.aT.m] (aa [y.x.aT.L] (aa [y.x.ay.h] (aa [y.x.ay.m] (aa [y.x.ay.L] (aa [y.x.aM.h] (aa [y.x.aM.m] (aa [y.x.aM.L] (aa [iw y,iw y] (false=false/\false=false/\aa ([0,0]:List Int) (aa [lS] (aa ([[]]:List (List UInt8)) (aa ([0]:List Int) (aa ([[]]:List (List b5)) (aa [i] (aa [(bJ q1.p).v.aF] (aa [(bJ q1.p).v.L] (aa [(ft y).h] (aa [(ft y).m] (aa [(ft y).L] (aa [iw y,iw y] (false=false/\false=false/\aa ([0,0]:List Int) (aa [lS] (aa ([[]]:List (List UInt8)) (aa ([0]:List Int) (aa ([[]]:List (List b5)) (aa [i] (aa [(bJ q1.p).v.aF] (aa [(bJ q1.p).v.L] (aa [(ft y).h] (aa [(ft y).m] (aa [(ft y).L] (aa [y.x.st.pos,y.x.st.bd] (aa [y.x.st.bO,y.x.st.eI] (aa [y.x.st.aZ,y.x.st.size] (aa [y.x.st.aS] (aa [y.x.aT.h] (aa [y.x.aT.m] (aa [y.x.aT.L] (aa [y.x.ay.h] (aa [y.x.ay.m] (aa [y.x.ay.L] (aa [y.x.aM.h] (aa [y.x.aM.m] (aa [y.x.aM.L] (∃z:Unit,aa [k] (iA q1 (u (ey q1 (a ((Iv (qf y))))))))))))))))))))))))))))))))))))))))))))))))))))))))))))))))))))))))))))))/\(∀x2:Unit,(Iv (qf y))->ak (!k) (False) (Iv (tr kn.o (ij.mk q1 y.x.st.pos y.x.st.bd y.x.st.aZ y.x.st.size y.x.st.bO l (qk.mk V (kz.mk q1.p y.x.ay.m y.x.ay.L (ow.mk e fe))) (qk.mk U (kz.mk q1.q y.x.aM.m y.x.aM.L (ow.mk j fe))) (qk.mk W (kz.mk q1.p y.x.aT.m y.x.aT.L (ow.mk e fe)))))/\iA q1 (u (ey q1 (Iv (yT (vP.mk (uP.mk y.x.st.pos y.x.st.bd y.x.st.bO true y.x.st.aZ y.x.st.size I) (mc.mk N y.x.aT.m y.x.aT.L) (mc.mk O y.x.ay.m y.x.ay.L) (mc.mk P y.x.aM.m y.x.aM.L)))/\r43 (Tt 1 (aa [y.x.st.aZ,y.x.st.size] (aa [I] (aa [N] (aa [y.x.aT.m] (aa [y.x.aT.L] (aa [O] (aa [y.x.ay.m] (aa [y.x.ay.L] (aa [P] (aa [y.x.aM.m] (aa [y.x.aM.L] (aa [y.x.st.pos,y.x.st.bd] (aa [y.x.st.bO] (y.x.st.eI=true/\aa [y.x.st.aZ,y.x.st.size] (y.x.st.aS=I/\y.x.aT.h=N/\aa [y.x.aT.m] (aa [y.x.aT.L] (y.x.ay.h=O/\aa [y.x.ay.m] (aa [y.x.ay.L] (y.x.aM.h=P/\aa [y.x.aM.m] (aa [y.x.aM.L] (Iv True/\aa [y.x.st.pos,y.x.st.bd] (aa [y.x.st.bO,y.x.st.eI] (aa [y.x.st.aZ,y.x.st.size] (aa [y.x.st.aS] (aa [y.x.aT.h] (aa [y.x.aT.m] (aa [y.x.aT.L] (aa [y.x.ay.h] (aa [y.x.ay.m] (aa [y.x.ay.L] (aa [y.x.aM.h] (aa [y.x.aM.m] (aa [y.x.aM.L] (aa [y.x.st.pos,y.x.st.bd] (aa [y.x.st.bO,y.x.st.eI] (aa [y.x.st.aZ,y.x.st.size] (aa [y.x.st.aS] (aa [y.x.aT.h] (aa [y.x.aT.m] (aa [y.x.aT.L] (aa [y.x.ay.h] (aa [y.x.ay.m] (aa [y.x.ay.L] (aa [y.x.aM.h] (aa [y.x.aM.m] (aa [y.x.aM.L] (True)))))))))))))))))))))))))))))))))))))))))))))))))))))))))))) (Iv (ri (y.s,false))/\RA4 y.s (Iv True/\True))
def Ϧ:∀y,VP y=Qsv y:=λy=>by kernel_rfl
def VQ (y:tD):Prop:=let k:=eL (tE y);let q1:=dD y.s;let e:=bY (iz y.s);let S:=bg y.x.aM.h 3;let Y:=y.x.ay.h.length;let T:=bg y.x.ay.h 3;let U:=bg y.x.ay.h 2;let V:=bg y.x.ay.h 1;let W:=bg y.x.aM.h 1;let X:=bg y.x.ay.h 0;let u:=bg y.x.aM.h 2;let I:=y.x.aM.h.length;let w:=bg y.x.aM.h 0;let g:=dj (bJ q1.p).d;let A:=ej.mk e.cc e.cs;let B:=ej.mk e.ae e.st;let i:=qM (q1.p.ae.length:Int);let j:=qM (q1.q.ae.length:Int);let b:=iX.mk q1 y.x.st y.x.aT y.x.ay y.x.aM;let R:=!(kE (eL b) k);let l:=ite (3<y.s.r.length) (List.take 3 y.s.r) y.s.r;let C:=ite (Y<=4) (Y:Int) 4;let D:=ite (I<=4) (I:Int) 4;let J:=jU.mk (cF.mk l y.s.c) B A [];let K:=zV.mk X V U T C;let M:=zV.mk w W u S D;let E:=dj K;let F:=dj M;let f:=iX.mk J y.x.st y.x.aT y.x.ay y.x.aM;let G:=ite (iW J) (tB A) NQ;let a:=λp:Prop=>RA3 y.x.st (RA0 y.x.aT (RA0 y.x.ay (RA0 y.x.aM p)));let O:=λp:Prop=>RA3 y.x.st (RA0 y.x.aT (RA0 y.x.ay (RA0 y.x.aM (RAQ l y.s.c (RA6 e (aa [!(seq y.s.c [])] p))))));let P:=λp:Prop=>RAJ (RAE (RAG (RAP g (RA9 (bJ q1.p) p))));let t:=λp:Prop=>RA8 y.x.st (RA2 q1.q (RAb y.x.aM.m (ah y.x.aM.L) (ah j) (ah fe) fe j y.x.aM.L w W u S D (RA2 q1.p (RAb y.x.ay.m (ah y.x.ay.L) (ah i) (ah fe) fe i y.x.ay.L X V U T C p))));let H:=λp:Prop=>RAD p;let Q:=λp:Prop=>RA8 y.x.st p;let N:Prop:=(RAQ l y.s.c (RA6 e (aa [!(seq y.s.c [])] (ey q1 (a ((Iv (qf y))))))));ak (Wi y.s) (Iv (ri (y.s,true))/\RA4 y.s (Iv True/\a (ak (!(lB y.x)) (Iv True/\True) (Iv (IA f)/\O ((Iv (yT y.x)/\a (ak (eL b) (ak y.x.st.eI (Iv (lI (b,Option.some kn.o))/\a (ey q1 (∃z:Unit,eL f=k/\iA q1 (Q (False))))) (ak (iW q1) (Iv (lI (b,Option.some kn.c))/\a (ey q1 (∃z:Unit,eL f=k/\iA q1 (aa [y.x.st.pos,y.x.st.bd] (aa [y.x.st.bO] (aa [q1.q.ae] (aa [q1.q.aj] (aa [y.x.aM.m,ah y.x.aM.L,ah j,ah fe] (aa [fe] (aa [j] (aa [y.x.aM.L] (aa [w,W,u,S,D] (aa [q1.p.ae] (aa [q1.p.aj] (aa [y.x.ay.m,ah y.x.ay.L,ah i,ah fe] (aa [fe] (aa [i] (aa [y.x.ay.L] (aa [X,V,U,T,C] (aa [l] (aa [y.s.c] (aa [e.ae] (aa [e.st] (aa [e.cc] (aa [e.cs] (aa [!(seq y.s.c [])] (ey q1 (a ((Iv (qf y))))))))))))))))))))))))))))))) (Iv (lI (b,Option.some kn.n))/\a (ey q1 (∃z:Unit,eL f=k/\iA q1 (False)))))) (Iv (lI (b,Option.none))/\a (ey q1 (∃z:Unit,eL f=k/\False)))))/\(∀x:Unit,(Iv (qf y))->(ak (iW q1) (Iv (gA (q1,true))/\a (ey q1 (∃z:Unit,aa [k] (iA q1 (t (dq b=iw y/\dq b=iw y/\false=false/\false=false/\H ([]=lS/\P (dj (bJ q1.q).d=(ft y).h/\(bJ q1.q).v.aF=(ft y).m/\(bJ q1.q).v.L=(ft y).L/\N)))))))) (Iv (gA (q1,false))/\a (ey q1 (∃z:Unit,aa [k] (iA q1 (t (dq b=iw y/\dq b=iw y/\false=false/\false=false/\H ([]=lS/\P ([]=(ft y).h/\0=(ft y).m/\[]=(ft y).L/\N)))))))))/\(∀Z:Unit,(Iv (qf y))->(Iv (Iz b)/\a (ey q1 (ak R (a (False)) (Iv (og B/\og A)/\O (Iv (yT (vP.mk (uP.mk (iw y) (iw y) false false 0 0 lS) (mc.mk [] 0 []) (mc.mk g (bJ q1.p).v.aF (bJ q1.p).v.L) (ft y)))/\aa [iw y,iw y] (false=false/\false=false/\aa ([0,0]:List Int) (aa [lS] (aa ([[]]:List (List UInt8)) (aa ([0]:List Int) (aa ([[]]:List (List b5)) (aa [g] (aa [(bJ q1.p).v.aF] (aa [(bJ q1.p).v.L] (aa [(ft y).h] (aa [(ft y).m] (aa [(ft y).L] (dq f=iw y/\dq f=iw y/\false=false/\false=false/\H ([]=lS/\aa ([[]]:List (List UInt8)) (aa ([0]:List Int) (aa ([[]]:List (List b5)) ([]=g/\0=(bJ q1.p).v.aF/\jZ B e.st.length=(bJ q1.p).v.L/\G.h=(ft y).h/\G.m=(ft y).m/\G.L=(ft y).L/\aa [y.x.st.pos,y.x.st.bd] (aa [y.x.st.bO,y.x.st.eI] (aa [y.x.st.aZ,y.x.st.size] (aa [y.x.st.aS] (aa [y.x.aT.h] (aa [y.x.aT.m] (aa [y.x.aT.L] (aa [y.x.ay.h] (aa [y.x.ay.m] (aa [y.x.ay.L] (aa [y.x.aM.h] (aa [y.x.aM.m] (aa [y.x.aM.L] (aa [iw y,iw y] (false=false/\false=false/\aa ([0,0]:List Int) (aa [lS] (aa ([[]]:List (List UInt8)) (aa ([0]:List Int) (aa ([[]]:List (List b5)) (aa [g] (aa [(bJ q1.p).v.aF] (aa [(bJ q1.p).v.L] (aa [(ft y).h] (aa [(ft y).m] (aa [(ft y).L] (aa [iw y,iw y] (false=false/\false=false/\aa ([0,0]:List Int) (aa [lS] (aa ([[]]:List (List UInt8)) (aa ([0]:List Int) (aa ([[]]:List (List b5)) (aa [g] (aa [(bJ q1.p).v.aF] (aa [(bJ q1.p).v.L] (aa [(ft y).h] (aa [(ft y).m] (aa [(ft y).L] (aa [y.x.st.pos,y.x.st.bd] (aa [y.x.st.bO,y.x.st.eI] (aa [y.x.st.aZ,y.x.st.size] (aa [y.x.st.aS] (aa [y.x.aT.h] (aa [y.x.aT.m] (aa [y.x.aT.L] (aa [y.x.ay.h] (aa [y.x.ay.m] (aa [y.x.ay.L] (aa [y.x.aM.h] (aa [y.x.aM.m] (aa [y.x.aM.L] (∃z:Unit,aa [k] (iA q1 (t (ey q1 (a ((Iv (qf y))))))))))))))))))))))))))))))))))))))))))))))))))))))))))))))))))))))))))))))/\(∀x2:Unit,(Iv (qf y))->ak (!k) (False) (Iv (tr kn.c (ij.mk q1 y.x.st.pos y.x.st.bd 0 0 y.x.st.bO [] (qk.mk K (kz.mk q1.p y.x.ay.m y.x.ay.L (ow.mk i fe))) (qk.mk M (kz.mk q1.q y.x.aM.m y.x.aM.L (ow.mk j fe))) Fb))/\iA q1 (t (ey q1 (Iv (yT (vP.mk (uP.mk y.x.st.pos y.x.st.bd y.x.st.bO false 0 0 []) (mc.mk [] 0 []) (mc.mk E y.x.ay.m y.x.ay.L) (mc.mk F y.x.aM.m y.x.aM.L)))/\Q (false=false/\aa ([0,0]:List Int) (aa ([[]]:List (List b5)) (aa ([[]]:List (List UInt8)) (aa ([0]:List Int) (aa ([[]]:List (List b5)) (aa [E] (aa [y.x.ay.m] (aa [y.x.ay.L] (aa [F] (aa [y.x.aM.m] (aa [y.x.aM.L] (aa [y.x.st.pos,y.x.st.bd] (aa [y.x.st.bO] (y.x.st.eI=false/\y.x.st.aZ=0/\y.x.st.size=0/\y.x.st.aS=[]/\y.x.aT.h=[]/\y.x.aT.m=0/\y.x.aT.L=[]/\y.x.ay.h=E/\aa [y.x.ay.m] (aa [y.x.ay.L] (y.x.aM.h=F/\aa [y.x.aM.m] (aa [y.x.aM.L] (Iv True/\aa [y.x.st.pos,y.x.st.bd] (aa [y.x.st.bO,y.x.st.eI] (aa [y.x.st.aZ,y.x.st.size] (aa [y.x.st.aS] (aa [y.x.aT.h] (aa [y.x.aT.m] (aa [y.x.aT.L] (aa [y.x.ay.h] (aa [y.x.ay.m] (aa [y.x.ay.L] (aa [y.x.aM.h] (aa [y.x.aM.m] (aa [y.x.aM.L] (aa [y.x.st.pos,y.x.st.bd] (aa [y.x.st.bO,y.x.st.eI] (aa [y.x.st.aZ,y.x.st.size] (aa [y.x.st.aS] (aa [y.x.aT.h] (aa [y.x.aT.m] (aa [y.x.aT.L] (aa [y.x.ay.h] (aa [y.x.ay.m] (aa [y.x.ay.L] (aa [y.x.aM.h] (aa [y.x.aM.m] (aa [y.x.aM.L] (True)))))))))))))))))))))))))))))))))))))))))))))))))))))))) (Iv (ri (y.s,false))/\RA4 y.s (Iv True/\True))
def ϧ:∀y,VQ y=Qsw y:=λy=>by kernel_rfl
def VS (y:tD):Prop:=let a:=dD y.s;let q1:=eL (tE y);let f:=bY (iz y.s);let K:=bg y.x.ay.h 1;let M:=bg y.x.ay.h 3;let N:=bg y.x.ay.h 0;let O:=bg y.x.ay.h 2;let P:=y.x.ay.h.length;let B:=dj (bJ a.p).d;let G:=qM (a.p.ae.length:Int);let k:=ej.mk f.ae f.st;let l:=ej.mk f.cc f.cs;let e:=iX.mk a y.x.st y.x.aT y.x.ay y.x.aM;let J:=!(kE (eL e) q1);let i:=ite (3<y.s.r.length) (List.take 3 y.s.r) y.s.r;let t:=ite (P<=4) (P:Int) 4;let C:=jU.mk (cF.mk i y.s.c) k l [];let D:=zV.mk N K O M t;let u:=dj D;let g:=iX.mk C y.x.st y.x.aT y.x.ay y.x.aM;let w:=ite (iW C) (tB l) NQ;let H:=λp:Prop=>RAJ (RAE (RAG (RAP B (RA9 (bJ a.p) p))));let I:=λp:Prop=>RA3 y.x.st (RA0 y.x.aT (RA0 y.x.ay (RA0 y.x.aM (RAQ i y.s.c (RA6 f (aa [!(seq y.s.c [])] p))))));let b:=λp:Prop=>RA3 y.x.st (RA0 y.x.aT (RA0 y.x.ay (RA0 y.x.aM p)));let A:=λp:Prop=>RAD p;let j:=λp:Prop=>RA8 y.x.st (RA2 a.p (RAb y.x.ay.m (ah y.x.ay.L) (ah G) (ah fe) fe G y.x.ay.L N K O M t p));let E:Prop:=(b (ey a (∃z:Unit,eL g=q1/\iA a (False))));let U:=aa [!(seq y.s.c [])] (ey a (b ((Iv (qf y)))));let F:Prop:=(RAQ i y.s.c (RA6 f U));ak (Wi y.s) (Iv (ri (y.s,true))/\RA4 y.s (Iv True/\b (ak (!(lB y.x)) (Iv True/\True) (Iv (IA g)/\I ((Iv (yT y.x)/\b (ak (eL e) (ak y.x.st.eI (Iv (lI (e,Option.some kn.o))/\E) (ak (iW a) (Iv (lI (e,Option.some kn.c))/\E) (Iv (lI (e,Option.some kn.n))/\b (ey a (∃z:Unit,eL g=q1/\iA a (aa [y.x.st.pos,y.x.st.bd] (aa [y.x.st.bO] (aa [a.p.ae] (aa [a.p.aj] (aa [y.x.ay.m,ah y.x.ay.L,ah G,ah fe] (aa [fe] (aa [G] (aa [y.x.ay.L] (aa [N,K,O,M,t] (aa [i] (aa [y.s.c] (aa [f.ae] (aa [f.st] (aa [f.cc] (aa [f.cs] U)))))))))))))))))))) (Iv (lI (e,Option.none))/\b (ey a (∃z:Unit,eL g=q1/\False)))))/\(∀x:Unit,(Iv (qf y))->(ak (iW a) (Iv (gA (a,true))/\b (ey a (∃z:Unit,aa [q1] (iA a (j (dq e=iw y/\dq e=iw y/\false=false/\false=false/\A ([]=lS/\H (dj (bJ a.q).d=(ft y).h/\(bJ a.q).v.aF=(ft y).m/\(bJ a.q).v.L=(ft y).L/\F)))))))) (Iv (gA (a,false))/\b (ey a (∃z:Unit,aa [q1] (iA a (j (dq e=iw y/\dq e=iw y/\false=false/\false=false/\A ([]=lS/\H ([]=(ft y).h/\0=(ft y).m/\[]=(ft y).L/\F)))))))))/\(∀Q:Unit,(Iv (qf y))->(Iv (Iz e)/\b (ey a (ak J (b (False)) (Iv (og k/\og l)/\I (Iv (yT (vP.mk (uP.mk (iw y) (iw y) false false 0 0 lS) (mc.mk [] 0 []) (mc.mk B (bJ a.p).v.aF (bJ a.p).v.L) (ft y)))/\aa [iw y,iw y] (false=false/\false=false/\aa ([0,0]:List Int) (aa [lS] (aa ([[]]:List (List UInt8)) (aa ([0]:List Int) (aa ([[]]:List (List b5)) (aa [B] (aa [(bJ a.p).v.aF] (aa [(bJ a.p).v.L] (aa [(ft y).h] (aa [(ft y).m] (aa [(ft y).L] (dq g=iw y/\dq g=iw y/\false=false/\false=false/\A ([]=lS/\aa ([[]]:List (List UInt8)) (aa ([0]:List Int) (aa ([[]]:List (List b5)) ([]=B/\0=(bJ a.p).v.aF/\jZ k f.st.length=(bJ a.p).v.L/\w.h=(ft y).h/\w.m=(ft y).m/\w.L=(ft y).L/\aa [y.x.st.pos,y.x.st.bd] (aa [y.x.st.bO,y.x.st.eI] (aa [y.x.st.aZ,y.x.st.size] (aa [y.x.st.aS] (aa [y.x.aT.h] (aa [y.x.aT.m] (aa [y.x.aT.L] (aa [y.x.ay.h] (aa [y.x.ay.m] (aa [y.x.ay.L] (aa [y.x.aM.h] (aa [y.x.aM.m] (aa [y.x.aM.L] (aa [iw y,iw y] (false=false/\false=false/\aa ([0,0]:List Int) (aa [lS] (aa ([[]]:List (List UInt8)) (aa ([0]:List Int) (aa ([[]]:List (List b5)) (aa [B] (aa [(bJ a.p).v.aF] (aa [(bJ a.p).v.L] (aa [(ft y).h] (aa [(ft y).m] (aa [(ft y).L] (aa [iw y,iw y] (false=false/\false=false/\aa ([0,0]:List Int) (aa [lS] (aa ([[]]:List (List UInt8)) (aa ([0]:List Int) (aa ([[]]:List (List b5)) (aa [B] (aa [(bJ a.p).v.aF] (aa [(bJ a.p).v.L] (aa [(ft y).h] (aa [(ft y).m] (aa [(ft y).L] (aa [y.x.st.pos,y.x.st.bd] (aa [y.x.st.bO,y.x.st.eI] (aa [y.x.st.aZ,y.x.st.size] (aa [y.x.st.aS] (aa [y.x.aT.h] (aa [y.x.aT.m] (aa [y.x.aT.L] (aa [y.x.ay.h] (aa [y.x.ay.m] (aa [y.x.ay.L] (aa [y.x.aM.h] (aa [y.x.aM.m] (aa [y.x.aM.L] (∃z:Unit,aa [q1] (iA a (j (ey a (b ((Iv (qf y))))))))))))))))))))))))))))))))))))))))))))))))))))))))))))))))))))))))))))))/\(∀R:Unit,(Iv (qf y))->ak (!q1) (False) (Iv (tr kn.n (ij.mk a y.x.st.pos y.x.st.bd 0 0 y.x.st.bO [] (qk.mk D (kz.mk a.p y.x.ay.m y.x.ay.L (ow.mk G fe))) Fb Fb))/\iA a (j (ey a (Iv (yT (vP.mk (uP.mk y.x.st.pos y.x.st.bd y.x.st.bO false 0 0 []) (mc.mk [] 0 []) (mc.mk u y.x.ay.m y.x.ay.L) (mc.mk [] 0 [])))/\aa [y.x.st.pos,y.x.st.bd] (aa [y.x.st.bO] (false=false/\aa ([0,0]:List Int) (aa ([[]]:List (List b5)) (aa ([[]]:List (List UInt8)) (aa ([0]:List Int) (aa ([[]]:List (List b5)) (aa [u] (aa [y.x.ay.m] (aa [y.x.ay.L] (aa ([[]]:List (List UInt8)) (aa ([0]:List Int) (aa ([[]]:List (List b5)) (aa [y.x.st.pos,y.x.st.bd] (aa [y.x.st.bO] (y.x.st.eI=false/\y.x.st.aZ=0/\y.x.st.size=0/\y.x.st.aS=[]/\y.x.aT.h=[]/\y.x.aT.m=0/\y.x.aT.L=[]/\y.x.ay.h=u/\aa [y.x.ay.m] (aa [y.x.ay.L] (y.x.aM.h=[]/\y.x.aM.m=0/\y.x.aM.L=[]/\Iv True/\aa [y.x.st.pos,y.x.st.bd] (aa [y.x.st.bO,y.x.st.eI] (aa [y.x.st.aZ,y.x.st.size] (aa [y.x.st.aS] (aa [y.x.aT.h] (aa [y.x.aT.m] (aa [y.x.aT.L] (aa [y.x.ay.h] (aa [y.x.ay.m] (aa [y.x.ay.L] (aa [y.x.aM.h] (aa [y.x.aM.m] (aa [y.x.aM.L] (aa [y.x.st.pos,y.x.st.bd] (aa [y.x.st.bO,y.x.st.eI] (aa [y.x.st.aZ,y.x.st.size] (aa [y.x.st.aS] (aa [y.x.aT.h] (aa [y.x.aT.m] (aa [y.x.aT.L] (aa [y.x.ay.h] (aa [y.x.ay.m] (aa [y.x.ay.L] (aa [y.x.aM.h] (aa [y.x.aM.m] (aa [y.x.aM.L] (True))))))))))))))))))))))))))))))))))))))))))))))))))))))) (Iv (ri (y.s,false))/\RA4 y.s (Iv True/\True))
def Ϩ:∀y,VS y=Qsx y:=λy=>by kernel_rfl
def VT (y:tD):Prop:=let g:=eL (tE y);let q1:=dD y.s;let b:=bY (iz y.s);let t:=dj (bJ q1.p).d;let A:=ej.mk b.cc b.cs;let B:=ej.mk b.ae b.st;let f:=iX.mk q1 y.x.st y.x.aT y.x.ay y.x.aM;let E:=!(kE (eL f) g);let C:=ite (3<y.s.r.length) (List.take 3 y.s.r) y.s.r;let D:=jU.mk (cF.mk C y.s.c) B A [];let e:=iX.mk D y.x.st y.x.aT y.x.ay y.x.aM;let i:=ite (iW D) (tB A) NQ;let u:=λp:Prop=>RA3 y.x.st (RA0 y.x.aT (RA0 y.x.ay (RA0 y.x.aM (RAQ C y.s.c (RA6 b (aa [!(seq y.s.c [])] p))))));let a:=λp:Prop=>RA3 y.x.st (RA0 y.x.aT (RA0 y.x.ay (RA0 y.x.aM p)));let w:=λp:Prop=>RAJ (RAE (RAG (RAP t (RA9 (bJ q1.p) p))));let l:=λp:Prop=>RAD p;let j:Prop:=(a (ey q1 (∃z:Unit,eL e=g/\False)));let k:Prop:=(RAQ C y.s.c (RA6 b (aa [!(seq y.s.c [])] (ey q1 (a ((Iv (qf y))))))));ak (Wi y.s) (Iv (ri (y.s,true))/\RA4 y.s (Iv True/\a (ak (!(lB y.x)) (Iv True/\True) (Iv (IA e)/\u ((Iv (yT y.x)/\a (ak (eL f) (ak y.x.st.eI (Iv (lI (f,Option.some kn.o))/\j) (ak (iW q1) (Iv (lI (f,Option.some kn.c))/\j) (Iv (lI (f,Option.some kn.n))/\j))) (Iv (lI (f,Option.none))/\a (ey q1 (∃z:Unit,eL e=g/\k)))))/\(∀x:Unit,(Iv (qf y))->(ak (iW q1) (Iv (gA (q1,true))/\a (ey q1 (∃z:Unit,aa [g] (dq f=iw y/\dq f=iw y/\false=false/\false=false/\l ([]=lS/\w (dj (bJ q1.q).d=(ft y).h/\(bJ q1.q).v.aF=(ft y).m/\(bJ q1.q).v.L=(ft y).L/\k)))))) (Iv (gA (q1,false))/\a (ey q1 (∃z:Unit,aa [g] (dq f=iw y/\dq f=iw y/\false=false/\false=false/\l ([]=lS/\w ([]=(ft y).h/\0=(ft y).m/\[]=(ft y).L/\k)))))))/\(∀F:Unit,(Iv (qf y))->(Iv (Iz f)/\a (ey q1 (ak E (a (False)) (Iv (og B/\og A)/\u (Iv (yT (vP.mk (uP.mk (iw y) (iw y) false false 0 0 lS) (mc.mk [] 0 []) (mc.mk t (bJ q1.p).v.aF (bJ q1.p).v.L) (ft y)))/\aa [iw y,iw y] (false=false/\false=false/\aa ([0,0]:List Int) (aa [lS] (aa ([[]]:List (List UInt8)) (aa ([0]:List Int) (aa ([[]]:List (List b5)) (aa [t] (aa [(bJ q1.p).v.aF] (aa [(bJ q1.p).v.L] (aa [(ft y).h] (aa [(ft y).m] (aa [(ft y).L] (dq e=iw y/\dq e=iw y/\false=false/\false=false/\l ([]=lS/\aa ([[]]:List (List UInt8)) (aa ([0]:List Int) (aa ([[]]:List (List b5)) ([]=t/\0=(bJ q1.p).v.aF/\jZ B b.st.length=(bJ q1.p).v.L/\i.h=(ft y).h/\i.m=(ft y).m/\i.L=(ft y).L/\aa [y.x.st.pos,y.x.st.bd] (aa [y.x.st.bO,y.x.st.eI] (aa [y.x.st.aZ,y.x.st.size] (aa [y.x.st.aS] (aa [y.x.aT.h] (aa [y.x.aT.m] (aa [y.x.aT.L] (aa [y.x.ay.h] (aa [y.x.ay.m] (aa [y.x.ay.L] (aa [y.x.aM.h] (aa [y.x.aM.m] (aa [y.x.aM.L] (aa [iw y,iw y] (false=false/\false=false/\aa ([0,0]:List Int) (aa [lS] (aa ([[]]:List (List UInt8)) (aa ([0]:List Int) (aa ([[]]:List (List b5)) (aa [t] (aa [(bJ q1.p).v.aF] (aa [(bJ q1.p).v.L] (aa [(ft y).h] (aa [(ft y).m] (aa [(ft y).L] (aa [iw y,iw y] (false=false/\false=false/\aa ([0,0]:List Int) (aa [lS] (aa ([[]]:List (List UInt8)) (aa ([0]:List Int) (aa ([[]]:List (List b5)) (aa [t] (aa [(bJ q1.p).v.aF] (aa [(bJ q1.p).v.L] (aa [(ft y).h] (aa [(ft y).m] (aa [(ft y).L] (aa [y.x.st.pos,y.x.st.bd] (aa [y.x.st.bO,y.x.st.eI] (aa [y.x.st.aZ,y.x.st.size] (aa [y.x.st.aS] (aa [y.x.aT.h] (aa [y.x.aT.m] (aa [y.x.aT.L] (aa [y.x.ay.h] (aa [y.x.ay.m] (aa [y.x.ay.L] (aa [y.x.aM.h] (aa [y.x.aM.m] (aa [y.x.aM.L] (∃z:Unit,aa [g] (aa [y.x.st.pos,y.x.st.bd] (aa [y.x.st.bO,y.x.st.eI] (aa [y.x.st.aZ,y.x.st.size] (aa [y.x.st.aS] (aa [y.x.aT.h] (aa [y.x.aT.m] (aa [y.x.aT.L] (aa [y.x.ay.h] (aa [y.x.ay.m] (aa [y.x.ay.L] (aa [y.x.aM.h] (aa [y.x.aM.m] (aa [y.x.aM.L] ((Iv (qf y)))))))))))))))))))))))))))))))))))))))))))))))))))))))))))))))))))))))))))))))))))))))/\(∀G:Unit,(Iv (qf y))->ak (!g) (Iv True/\True) (False))))))))) (Iv (ri (y.s,false))/\RA4 y.s (Iv True/\True))
def ϩ:∀y,VT y=Qsy y:=λy=>by kernel_rfl
def AR (p:ej):dj (bJ p).d=[]/\(bJ p).v.aF=0/\(bJ p).v.L=jZ p p.aj.length:=by
 rw[show bJ p=⟨dc0,TR p⟩ from aJ _];exact⟨rfl,rfl,by rw[QjR];unfold jZ;rw[ZaM]⟩
theorem Qek {h:By} (e:uV h):dj (ue h)=h/\h.length<=4:=by
 have hl:h.length<=3:=by
  unfold uV at e;rcases Bool.or_eq_true_iff.1 e with e | e
  ·rw[ZaH e];exact Zaj _
  ·exact TW e
 refine⟨?_,ω⟩
 match h,hl with
 | [],_=>rfl
 | [a],_=>simp[dj,ue,bg,b8]
 | [a,b],_=>simp[dj,ue,bg,b8]
 | [a,b,c],_=>simp[dj,ue,bg,b8]
def Qsz (r:jU) (st:uP) (a b c:mc):eL ⟨⟨r.s,r.p,r.q,[]⟩,st,a,b,c⟩=eL ⟨r,st,a,b,c⟩:=by
 rw[show eL ⟨⟨r.s,r.p,r.q,[]⟩,st,a,b,c⟩=_ from aJ _,show eL ⟨r,st,a,b,c⟩=_ from aJ _];rfl
def Lr (s:cF):(bY (iz s)).ae=(dD s).p.ae/\(bY (iz s)).st=(dD s).p.aj/\(bY (iz s)).cc=(dD s).q.ae/\(bY (iz s)).cs=(dD s).q.aj/\(⟨if 3<s.r.length then s.r.take 3 else s.r,s.c⟩:cF)=(dD s).s/\∀p:ej,(⟨p.ae,p.aj⟩:ej)=p:=by
 rw[show dD s=_ from aJ _];exact⟨rfl,rfl,rfl,rfl,rfl,λ_=>rfl⟩
def sF {l:List b5} (h:qt l):qR l:=by
 obtain⟨h1,a⟩:=(sE l).1 h;refine⟨ω,λx b=>?_⟩;obtain⟨i,hi,rfl⟩:=Za3 b;have:=a i hi;rw[Zag,Zaf hi] at this;exact Zav this ω
def E1 {y:vP} (h:lB y):yT y:=by
 obtain⟨h1,a,b,c⟩:=(yj y).1 h;exact⟨sF (h1 0 ω),⟨ω,sF (h1 1 ω)⟩,⟨ω,sF (h1 2 ω)⟩,⟨ω,sF (h1 3 ω)⟩⟩
def QkO {y:tD} (h:qf y):Iz (tE y):=by
 obtain⟨h1,d⟩:=h;obtain⟨a,a2,a3,a4⟩:=E1 d;obtain⟨b1,b,c⟩:=E0 h1;exact⟨⟨b1,a3.2.1,a3.2.2⟩,⟨b1,a2.2.1,a2.2.2⟩,b,λe=>⟨(c e).1,a4.2.1,a4.2.2⟩,a.1⟩
structure VU (y:tD):Prop where
 dw:IA ⟨⟨(dD y.s).s,(dD y.s).p,(dD y.s).q,[]⟩,y.x.st,y.x.aT,y.x.ay,y.x.aM⟩
 ds:eL ⟨⟨(dD y.s).s,(dD y.s).p,(dD y.s).q,[]⟩,y.x.st,y.x.aT,y.x.ay,y.x.aM⟩=eL (tE y)
 sa:yT y.x
 ws:Iz ⟨dD y.s,y.x.st,y.x.aT,y.x.ay,y.x.aM⟩
 md:∀b,b=iW (dD y.s)->gA (dD y.s,b)
 pg:og (dD y.s).p/\og (dD y.s).q
 ag:dq ⟨⟨(dD y.s).s,(dD y.s).p,(dD y.s).q,[]⟩,y.x.st,y.x.aT,y.x.ay,y.x.aM⟩=iw y
 sb:yT ⟨⟨iw y,iw y,false,false,0,0,lS⟩,⟨[],0,[]⟩,⟨dj (bJ (dD y.s).p).d,(bJ (dD y.s).p).v.aF,(bJ (dD y.s).p).v.L⟩,ft y⟩
 eT:iW (dD y.s)=true->ft y=⟨dj (bJ (dD y.s).q).d,(bJ (dD y.s).q).v.aF,(bJ (dD y.s).q).v.L⟩
 eF:iW (dD y.s)=false->ft y=⟨[],0,[]⟩
 oa:dq ⟨dD y.s,y.x.st,y.x.aT,y.x.ay,y.x.aM⟩=iw y
 eD:(if iW ⟨(dD y.s).s,(dD y.s).p,(dD y.s).q,[]⟩=true then tB (dD y.s).q else NQ)=ft y
def Ls {y:tD} (h:qf y):VU y:=by
 have hw:=QkO h;obtain⟨h1,m⟩:=h;have n:=E1 m;obtain⟨b1,k,u⟩:=E0 h1;have d:og (dD y.s).p:=b1.pg;have e:ft y=if iW (dD y.s)=true then tB (dD y.s).q else NQ:=aJ _
 have c:∀p,og p->qR (jZ p p.aj.length):=λp t=>by
  refine⟨by unfold jZ;simp;exact t.2.1,λx l=>?_⟩;unfold jZ at l;obtain⟨a,_,rfl⟩:=ZcL.1 l;simp[jV]
 have j:(dD y.s).p.aj.length=(dD y.s).s.r.length:=Qei h1;refine⟨⟨hw,j⟩,Qsz _ _ _ _ _,n,hw,λb o=>Qej h1 o,⟨d,k⟩,rfl,⟨⟨Zaj _,nofun⟩,⟨Zaj _,Zaj _,nofun⟩,?_,?_⟩,λi=>?_,λi=>?_,rfl,e.symm⟩
 ·obtain⟨f,e2,g⟩:=AR (dD y.s).p;rw[f,e2,g];exact⟨Zaj _,c _ d⟩
 ·rw[e];split
  ·exact⟨Zaj _,c _ k⟩
  ·exact⟨Zaj _,Zaj _,nofun⟩
 ·obtain⟨f,e2,g⟩:=AR (dD y.s).q;rw[e,Zac i,f,e2,g];rfl
 ·rw[e,Zaa (by simp[i])];rfl
def Cm (h:By):zV.mk (bg h 0) (bg h 1) (bg h 2) (bg h 3) (if h.length<=4 then(h.length:Int) else 4)=ue h:=rfl
def AS (h:By):J6 (ue h):=by
 unfold J6 ue;simp only;split<;>omega
theorem Qel {l:List b5} {n z:Int} (h:gg ⟨l,n,z⟩):List.map jR l=l:=by
 rw[tA,ZaW] at h;have:∀k,ly ⟨l,n,z⟩ k->∀i,i<k->(l.getD i fl).aL=[]:=by
  intro k
  induction k with
  | zero=>exact λ_ i hi=>absurd hi (Zbo i)
  | succ k c=>
   intro hk i hi;rw[ly,ZaW] at hk;by_cases e:i=k
   ·subst e;have:=(Bool.and_eq_true_iff.1 hk.2).1;exact Zap (ZaH this)
   ·exact c hk.1 i ω
 have b:=this _ h.2;refine Zdx (by simp) λi d a=>?_
 have:=b i a;rw[Zag,Zaf a] at this;rw[ZcD];have e:l[i].aL=[]:=this;generalize l[i]=x at e;cases x;simp_all [jR]
def tF {y:ja} (h:ES y):dj (ue y.h)=y.h:=(Qek (Bool.and_eq_true_iff.1 h).2).1
theorem IP {y:iX} (h:eL y):(y.st.eI=false->ju y.aT)/\(iW y.ru=false->ju y.aM):=by
 grind [eL,Vc,EU,aJ]
def VV {b:Bool} {s:mc} (h:b=false->ju s) (a:b=false):s.h=[]/\s.m=0/\s.L=[]:=by
 have:=h a;simpa [ju,aC,ah,Zdc] using this
theorem QsA (y:tD) (b:Oh.pre (y,none)):VT y:=by
 have b:none=g_ (tE y):=b;have hw:eL (tE y)=false:=by grind [g_]
 have a:eL ⟨dD y.s,y.x.st,y.x.aT,y.x.ay,y.x.aM⟩=false:=hw;have e:qf y->VU y:=Ls;obtain⟨c,e2,d⟩:=AR (dD y.s).p;obtain⟨f,g,v3,i,v5,j⟩:=Lr y.s;unfold VT;simp only[nS,fN,bh,f,g,v3,i,v5,j,hw,a,c,e2,d,Cm];by_cases h:qf y
 ·obtain⟨k1,k2,k3,k4,k5,k6,k7,k8,k9,k10,k12,Ϫ⟩:=e h;rw[c,e2,d] at k8;have k:lI (⟨dD y.s,y.x.st,y.x.aT,y.x.ay,y.x.aM⟩,none):=⟨k4,k5 _ rfl,b⟩;have hk:=h.1;have hs:=h.2;generalize dD y.s=R at*
  simp only[hk,hs,k2,hw,Ϫ,ZcF,Bool.not_false,ZaE,ZbV,ZaX,implies_true,Zai,Zal,reduceCtorEq,eC,ZaZ,ZaY]
  with_reducible repeat' first | assumption | apply And.intro | intro _
  all_goals first | exact k5 _ (by assumption) | exact k5 _ (Eq.symm (by assumption)) | rfl | (simp_all [ri];done) | skip
 ·refine⟨λhk=>⟨hk.symm,λ_=>trivial,λhs=>absurd ⟨hk,by simpa using hs⟩ h⟩,λhk=>hk.symm⟩
theorem QsB (y:tD) (d:Oh.pre (y,some .o)):VP y:=by
 have d:some .o=g_ (tE y):=d;have hw:eL (tE y):=by grind [g_]
 have c:eL ⟨dD y.s,y.x.st,y.x.aT,y.x.ay,y.x.aM⟩:=hw;have a:y.x.st.eI:=by grind [g_,tE]
 obtain⟨b,g1,g2,g3,g4⟩:=EX hw a;have g1:List.map jR y.x.st.aS=y.x.st.aS:=Qel g1;have g2:dj (ue y.x.ay.h)=y.x.ay.h:=tF g2;have g3:dj (ue y.x.aM.h)=y.x.aM.h:=tF g3;have g4:dj (ue y.x.aT.h)=y.x.aT.h:=tF g4;have b:iW (dD y.s):=b;have g:qf y->VU y:=Ls;obtain⟨e,e2,f⟩:=AR (dD y.s).p;obtain⟨i,j,v3,k,v5,l⟩:=Lr y.s;unfold VP;simp only[nS,fN,bh,i,j,v3,k,v5,l,hw,c,e,e2,f,Cm,a,b,g1,g2,g3,g4];by_cases h:qf y
 ·obtain⟨k1,k2,k3,k4,k5,k6,k7,k8,k9,k10,k12,Ϫ⟩:=g h;rw[e,e2,f] at k8;have n:lI (⟨dD y.s,y.x.st,y.x.aT,y.x.ay,y.x.aM⟩,some .o):=⟨k4,k5 _ rfl,d⟩;have r:tr .o ⟨dD y.s,y.x.st.pos,y.x.st.bd,y.x.st.aZ,y.x.st.size,y.x.st.bO,y.x.st.aS,⟨ue y.x.ay.h,⟨(dD y.s).p,y.x.ay.m,y.x.ay.L,⟨qM (dD y.s).p.ae.length,fe⟩⟩⟩,⟨ue y.x.aM.h,⟨(dD y.s).q,y.x.aM.m,y.x.aM.L,⟨qM (dD y.s).q.ae.length,fe⟩⟩⟩,⟨ue y.x.aT.h,⟨(dD y.s).p,y.x.aT.m,y.x.aT.L,⟨qM (dD y.s).p.ae.length,fe⟩⟩⟩⟩:=⟨⟨AS _,k3.2.2.1.2⟩,⟨AS _,k3.2.2.2.2⟩,λ_=>⟨⟨AS _,k3.2.1.2⟩,k3.1.1⟩⟩;have t:yT ⟨⟨y.x.st.pos,y.x.st.bd,y.x.st.bO,true,y.x.st.aZ,y.x.st.size,y.x.st.aS⟩,⟨y.x.aT.h,y.x.aT.m,y.x.aT.L⟩,⟨y.x.ay.h,y.x.ay.m,y.x.ay.L⟩,⟨y.x.aM.h,y.x.aM.m,y.x.aM.L⟩⟩:=k3;have hk:=h.1;have hs:=h.2;generalize dD y.s=R at*
  simp only[hk,hs,k2,hw,Ϫ,ZcF,Bool.not_false,ZaE,ZbV,ZaX,implies_true,Zai,Zal,reduceCtorEq,eC,ZaZ,ZaY]
  with_reducible repeat' first | assumption | apply And.intro | intro _
  all_goals first | exact k5 _ (by assumption) | exact k5 _ (Eq.symm (by assumption)) | rfl | (simp_all [ri];done) | skip
 ·refine⟨λhk=>⟨hk.symm,λ_=>trivial,λhs=>absurd ⟨hk,by simpa using hs⟩ h⟩,λhk=>hk.symm⟩
theorem QsC (y:tD) (e:Oh.pre (y,some .c)):VQ y:=by
 have e:some .c=g_ (tE y):=e;have hw:eL (tE y):=by grind [g_]
 have d:eL ⟨dD y.s,y.x.st,y.x.aT,y.x.ay,y.x.aM⟩:=hw;have a:y.x.st.eI=false:=by grind [g_,tE]
 have k:iW (dD y.s):=by grind [g_,tE]
 obtain⟨i,j,b,g2,g3⟩:=n_ hw a;have i:y.x.st.aZ=0:=je.1 i;have j:y.x.st.size=0:=je.1 j;have b:aC (ah y.x.st.aS) 0:=b;have b:y.x.st.aS=[]:=by simpa [aC,ah] using b
 have⟨z,A,B⟩:y.x.aT.h=[]/\y.x.aT.m=0/\y.x.aT.L=[]:=VV (IP hw).1 a;have g2:dj (ue y.x.ay.h)=y.x.ay.h:=tF g2;have g3:dj (ue y.x.aM.h)=y.x.aM.h:=tF (g3 k);have l:qf y->VU y:=Ls;obtain⟨f,e2,g⟩:=AR (dD y.s).p;obtain⟨n,o,v3,r,v5,t⟩:=Lr y.s;unfold VQ;simp only[nS,fN,bh,n,o,v3,r,v5,t,hw,d,f,e2,g,Cm,a,k,g2,g3];by_cases h:qf y
 ·obtain⟨k1,k2,k3,k4,k5,k6,k7,k8,k9,k10,k12,Ϫ⟩:=l h;rw[f,e2,g] at k8;have u:lI (⟨dD y.s,y.x.st,y.x.aT,y.x.ay,y.x.aM⟩,some .c):=⟨k4,k5 _ rfl,e⟩;have v:tr .c ⟨dD y.s,y.x.st.pos,y.x.st.bd,0,0,y.x.st.bO,[],⟨ue y.x.ay.h,⟨(dD y.s).p,y.x.ay.m,y.x.ay.L,⟨qM (dD y.s).p.ae.length,fe⟩⟩⟩,⟨ue y.x.aM.h,⟨(dD y.s).q,y.x.aM.m,y.x.aM.L,⟨qM (dD y.s).q.ae.length,fe⟩⟩⟩,Fb⟩:=⟨⟨AS _,k3.2.2.1.2⟩,⟨AS _,k3.2.2.2.2⟩,nofun⟩;have w:yT ⟨⟨y.x.st.pos,y.x.st.bd,y.x.st.bO,false,0,0,[]⟩,⟨[],0,[]⟩,⟨y.x.ay.h,y.x.ay.m,y.x.ay.L⟩,⟨y.x.aM.h,y.x.aM.m,y.x.aM.L⟩⟩:=⟨⟨Zaj _,nofun⟩,⟨Zaj _,Zaj _,nofun⟩,k3.2.2⟩;have hk:=h.1;have hs:=h.2;generalize dD y.s=R at*
  simp only[hk,hs,k2,hw,Ϫ,ZcF,Bool.not_false,ZaE,ZbV,ZaX,implies_true,Zai,Zal,reduceCtorEq,eC,ZaZ,ZaY]
  with_reducible repeat' first | assumption | apply And.intro | intro _
  all_goals first | exact k5 _ (by assumption) | exact k5 _ (Eq.symm (by assumption)) | rfl | (simp_all [ri];done) | skip
 ·refine⟨λhk=>⟨hk.symm,λ_=>trivial,λhs=>absurd ⟨hk,by simpa using hs⟩ h⟩,λhk=>hk.symm⟩
theorem QsD (y:tD) (d:Oh.pre (y,some .n)):VS y:=by
 have d:some .n=g_ (tE y):=d;have hw:eL (tE y):=by grind [g_]
 have c:eL ⟨dD y.s,y.x.st,y.x.aT,y.x.ay,y.x.aM⟩:=hw;have a:y.x.st.eI=false:=by grind [g_,tE]
 have j:iW (dD y.s)=false:=by grind [g_,tE]
 obtain⟨g,i,b,g2,g3⟩:=n_ hw a;have g:y.x.st.aZ=0:=je.1 g;have i:y.x.st.size=0:=je.1 i;have b:aC (ah y.x.st.aS) 0:=b;have b:y.x.st.aS=[]:=by simpa [aC,ah] using b
 have⟨w,z,A⟩:y.x.aT.h=[]/\y.x.aT.m=0/\y.x.aT.L=[]:=VV (IP hw).1 a;have g2:dj (ue y.x.ay.h)=y.x.ay.h:=tF g2;have⟨B,C,D⟩:y.x.aM.h=[]/\y.x.aM.m=0/\y.x.aM.L=[]:=VV (IP hw).2 j;have k:qf y->VU y:=Ls;obtain⟨e,e2,f⟩:=AR (dD y.s).p;obtain⟨l,o,v3,q,v5,r⟩:=Lr y.s;unfold VS;simp only[nS,fN,bh,l,o,v3,q,v5,r,hw,c,e,e2,f,Cm,a,j,g2];by_cases h:qf y
 ·obtain⟨k1,k2,k3,k4,k5,k6,k7,k8,k9,k10,k12,Ϫ⟩:=k h;rw[e,e2,f] at k8;have t:lI (⟨dD y.s,y.x.st,y.x.aT,y.x.ay,y.x.aM⟩,some .n):=⟨k4,k5 _ rfl,d⟩;have u:tr .n ⟨dD y.s,y.x.st.pos,y.x.st.bd,0,0,y.x.st.bO,[],⟨ue y.x.ay.h,⟨(dD y.s).p,y.x.ay.m,y.x.ay.L,⟨qM (dD y.s).p.ae.length,fe⟩⟩⟩,Fb,Fb⟩:=⟨⟨AS _,k3.2.2.1.2⟩,⟨⟨ZaQ 0,by show(0:Int)<=4;omega⟩,Zaj _,nofun⟩,nofun⟩;have v:yT ⟨⟨y.x.st.pos,y.x.st.bd,y.x.st.bO,false,0,0,[]⟩,⟨[],0,[]⟩,⟨y.x.ay.h,y.x.ay.m,y.x.ay.L⟩,⟨[],0,[]⟩⟩:=⟨⟨Zaj _,nofun⟩,⟨Zaj _,Zaj _,nofun⟩,k3.2.2.1,⟨Zaj _,Zaj _,nofun⟩⟩;have hk:=h.1;have hs:=h.2;generalize dD y.s=R at*
  simp only[hk,hs,k2,hw,Ϫ,ZcF,Bool.not_false,ZaE,ZbV,ZaX,implies_true,Zai,Zal,reduceCtorEq,eC,ZaZ,ZaY]
  with_reducible repeat' first | assumption | apply And.intro | intro _
  all_goals first | exact k5 _ (by assumption) | exact k5 _ (Eq.symm (by assumption)) | rfl | (simp_all [ri];done) | skip
 ·refine⟨λhk=>⟨hk.symm,λ_=>trivial,λhs=>absurd ⟨hk,by simpa using hs⟩ h⟩,λhk=>hk.symm⟩
theorem QsE (hl:Ok xR) (d:Ok yS) (b:Ok cK) (hs:Ok Qeh):Ok Oh:=cn (V:=λy=>vc wlT Tryz.f5 Oh wlO y) (λ_=>rfl) ⟨QkL hl d,Qef,hs,Qj5 s8,Qks,QkF b,Qkl b,QbG b,Qkw,Qkq,VB,T8,QdS⟩ λ⟨y,f⟩ e=>match f,e with
 | some .o,h=>Eq.mp (Ϧ y) (QsB y h)
 | some .c,h=>Eq.mp (ϧ y) (QsC y h)
 | some .n,h=>Eq.mp (Ϩ y) (QsD y h)
 | none,h=>Eq.mp (ϩ y) (QsA y h)
 | some .p,h=>by have h:some .p=g_ (tE y):=h;grind [g_]
 | some .a,h=>by have h:some .a=g_ (tE y):=h;grind [g_]
end
end sx
namespace sx
open Go Go.RowKit
noncomputable section
abbrev Rn (E:Nat->Type):=St E->T (AV E)->C (Ex×St E×T (AV E))
section
variable (P:Program) (D:Data) (cd:TypeId->Option Nat) (ca:tK D.E) (mu:List Nat) (N un:Nat)
def nxt (b:Rn D.E) (r:Ex×St D.E×T (AV D.E)):C (Ex×St D.E×T (AV D.E)):=match r.1 with
 | .normal=>b r.2.1 r.2.2
 | _=>.ret r
def VW (body:Rn D.E) (n:Nat):Rn D.E:=Nat.rec (motive:=λ_=>Rn D.E) (λ_ _=>.fail) (λ_ a s φ=>aA (body s φ) (nxt D a)) n
def Qem (id:Nat) (r:Ex×St D.E×T (AV D.E)):Ex×St D.E×T (AV D.E):=match r.1 with
 | .exit j=>bif Nat.beq j id then(.normal,r.2) else r
 | _=>r
def Cn (c:Code):Rn D.E:=
 Code.rec (motive:=λ_=>Rn D.E)
  (λs φ=>.ret (.normal,s,φ))
  (λid ops draw s φ=>aA (bif draw then CD P D cd (CG mu id) ca ops.toList N s φ else qC P D cd (CG mu id) ca ops.toList N ops.toList (nat_lit 0) s φ) λq=>.ret (.normal,q))
  (λ_ _ b a s φ=>aA (b s φ) (nxt D a))
  (λc _ _ b a s φ=>aA (aA (ev P D φ c) λv=>vX D v) λt=>bif t then b s φ else a s φ)
  (λid _ a s φ=>aA (a s φ) λr=>.ret (Qem D id r))
  (λ_ a=>VW D a un)
  (λ_ _ _ _ _ _ _ _=>.fail)
  (λid s φ=>.ret (.exit id,s,φ))
  (λ_ _ _ _=>.fail)
  (λ_ s φ=>.ret (.normal,s,φ))
  (λ_ _ _=>.fail)
  (λs φ=>.ret (.ret,s,φ))
  (λ_ _ _=>.fail) c
def QkR (a:List (AV D.E)):C (AV D.E):=match a with
 | [v]=>match v with
  | .tuple _=>.fail
  | v=>.ret v
 | a=>.ret (.tuple a)
def QkS (e:Ex):Bool:=match e with
 | .exit _=>false
 | _=>true
def VX (f:FuncId) (args:List (AV D.E)) (s:St D.E):C (AV D.E×St D.E):=aA (cN P.funcs[f]?) λfn=>aA (cN fn.body) λc=>bB (Nat.ble (kg args) fn.ntmps) (aA (sL D args (nat_lit 0) .nil) λφ=>
 aA (Cn P D cd ca mu fn.ntmps un c s φ) λr=>bB (QkS r.1) (aA (OT P D r.2.1 r.2.2 fn.results.toList) λa=>aA (QkR D a) λv=>.ret (v,r.2.1)))
def inl (tab:List (bk D)) (a:List (Nat×List Nat)) (n:Nat):tK D.E:=Nat.rec (motive:=λ_=>tK D.E) (Wv D tab)
 (λ_ b f args s=>bE (Ba (Wv D tab f args s)) (VX P D cd b ((cy a f).getD []) un f args s) (Wv D tab f args s)) n
end
end
section
variable {P:Program} {D:Data} {cd:TypeId->Option Nat} {ca:tK D.E} {M M':Pm D} {w w':World} {s s':St D.E} {φ φ':T (AV D.E)} {a:Act} {mu:List Nat} {N un:Nat}
variable {Z:List (AV D.E)} {v:AV D.E}
def QkT (P:Program) (N:Nat) (c:Code) (r:Rn D.E):Prop:=∀(s:St D.E) (φ:T (AV D.E)) (e:Ex) (b:St D.E) (d:T (AV D.E)),(r s φ).H (e,b,d)->s.nx<=b.nx/\
 ∀(M:Pm D) (a:Act) (w:World),dX M s.h.get w->FR M φ a N->bW M s.nx b.nx->∀R:Exit->Act->World->Prop,
  (∀f g i,cP s.h.get M w b.h.get f i s.nx b.nx->FR f d g N->R (Qco e) g i)->c.wp P R a w
theorem Lt {b:Code} {r:Rn D.E} (y:QkT P N b r):∀(n:Nat) (s:St D.E) (φ:T (AV D.E)) (e:Ex) (f:St D.E) (d:T (AV D.E)),(VW D r n s φ).H (e,f,d)->s.nx<=f.nx/\
  ∀(M:Pm D) (a:Act) (w:World),dX M s.h.get w->FR M φ a N->bW M s.nx f.nx->∀R:Exit->Act->World->Prop,
   (∀v x A,cP s.h.get M w f.h.get v A s.nx f.nx->FR v d x N->R (Qco e) x A)->Code.rounds P b R n a w
 | 0,s,φ,e,f,d,h=>(sM h).elim
 | n+1,s,φ,e,f,d,h=>by
  obtain⟨⟨F,I,u⟩,h1,q⟩:=an.1 (show(aA (r s φ) (nxt D (VW D r n))).H _ from h);obtain⟨t,k1⟩:=y _ _ _ _ _ h1;cases F with
  | normal=>
   obtain⟨z,k2⟩:=Lt y n _ _ _ _ _ (show(VW D r n I u).H _ from q);refine⟨Zav t z,λM a w m o c R l=>?_⟩;rw[rounds_succ];refine k1 M a w m o (c.fst z) _ λi j p g k=>?_
   exact k2 i j p g.fJ k (c.next g) R λB a2 K J G=>l B a2 K (g.trans J) G
  | exit id=>
   cases av.1 (show(C.ret _).H _ from q);refine⟨t,λM a w m o c R l=>?_⟩;rw[rounds_succ];exact k1 M a w m o c _ λi j p g k=>l i j p g k
  | ret=>
   cases av.1 (show(C.ret _).H _ from q);refine⟨t,λM a w m o c R l=>?_⟩;rw[rounds_succ];exact k1 M a w m o c _ λi j p g k=>l i j p g k
theorem ϫ (W:a7 D) (O:P.follows .mixedOrders) (Q:sS P) (L:sR P D ca) (c:Code):QkT P N c (Cn P D cd ca mu N un c):=by
 induction c with
 | skip=>
  intro s φ e z i h;cases av.1 (show(C.ret _).H _ from h);exact⟨Zah _,λM a w n g _ R m=>wp_skip (m M a w (.refl n _) g)⟩
 | region id ops draw=>
  intro s φ e z i h;obtain⟨⟨K,p⟩,h1,o⟩:=an.1 (show(aA _ λq=>C.ret (Ex.normal,q)).H _ from h);cases av.1 o;cases draw with
  | true=>exact C0 (id:=id) W O Q L (show(CD P D cd (CG mu id) ca ops.toList N s φ).H _ from h1)
  | false=>
   obtain⟨l,k⟩:=pJ W Q L _ _ _ _ _ _ (show(qC P D cd (CG mu id) ca ops.toList N ops.toList 0 s φ).H _ from h1);exact⟨l,λM a w n g d R m=>wp_region_list (k M a w n g d R m)⟩
 | seq x y G I=>
  intro s φ e z i h;obtain⟨⟨S,K,p⟩,h1,o⟩:=an.1 (show(aA (Cn P D cd ca mu N un x s φ) (nxt D (Cn P D cd ca mu N un y))).H _ from h);obtain⟨J,k1⟩:=G _ _ _ _ _ h1;cases S with
  | normal=>
   obtain⟨X,k2⟩:=I _ _ _ _ _ (show(Cn P D cd ca mu N un y K p).H _ from o);refine⟨Zav J X,λM a w n g d R m=>wp_seq (k1 M a w n g (d.fst X) _ λE u B A F=>?_)⟩;exact k2 E u B A.fJ F (d.next A) R λY a2 w2 t2 Z=>m Y a2 w2 (A.trans t2) Z
  | exit id=>
   cases av.1 (show(C.ret _).H _ from o);exact⟨J,λM a w n g d R m=>wp_seq (k1 M a w n g d _ λE u B A F=>m E u B A F)⟩
  | ret=>
   cases av.1 (show(C.ret _).H _ from o);exact⟨J,λM a w n g d R m=>wp_seq (k1 M a w n g d _ λE u B A F=>m E u B A F)⟩
 | cond c x y G I=>
  intro s φ e z i h;obtain⟨t,h1,o⟩:=an.1 (show(aA (aA (ev P D φ c) λv=>vX D v) λt=>bif t then Cn P D cd ca mu N un x s φ else Cn P D cd ca mu N un y s φ).H _ from h);obtain⟨v,U,V⟩:=an.1 h1;cases t with
  | true=>
   obtain⟨l,k⟩:=G _ _ _ _ _ o;exact⟨l,λM a w n g d R m=>wp_cond_true (vj V (dF U g)) (k M a w n g d R m)⟩
  | false=>
   obtain⟨l,k⟩:=I _ _ _ _ _ o;exact⟨l,λM a w n g d R m=>wp_cond_false (vj V (dF U g)) (k M a w n g d R m)⟩
 | block id b T=>
  intro s φ e z i h;obtain⟨⟨S,K,p⟩,h1,o⟩:=an.1 (show(aA (Cn P D cd ca mu N un b s φ) λr=>C.ret (Qem D id r)).H _ from h);obtain⟨J,k1⟩:=T _ _ _ _ _ h1;have o:Qem D id (S,K,p)=(e,z,i):=av.1 o;cases S with
  | normal=>
   cases o;exact⟨J,λM a w n g d R m=>wp_block (k1 M a w n g d _ λE u B A F=>m E u B A F)⟩
  | ret=>
   cases o;exact⟨J,λM a w n g d R m=>wp_block (k1 M a w n g d _ λE u B A F=>m E u B A F)⟩
  | exit j=>
   by_cases q:j=id
   ·have o:(cond (Nat.beq j id) (Ex.normal,K,p) (Ex.exit j,K,p))=(e,z,i):=o;rw[aN.2 q] at o;cases o;refine⟨J,λM a w n g d R m=>wp_block (k1 M a w n g d _ λE u B A F=>?_)⟩;show Exit.inBlock id R (.exit j) u B
    simp only[Exit.inBlock,Zac q];exact m E u B A F
   ·have o:(cond (Nat.beq j id) (Ex.normal,K,p) (Ex.exit j,K,p))=(e,z,i):=o;rw[rv.2 q] at o;cases o;refine⟨J,λM a w n g d R m=>wp_block (k1 M a w n g d _ λE u B A F=>?_)⟩;show Exit.inBlock id R (.exit j) u B
    simp only[Exit.inBlock,Zaa q];exact m E u B A F
 | loop b T=>
  intro s φ e z i h;obtain⟨l,k⟩:=Lt T un _ _ _ _ _ (show(VW D (Cn P D cd ca mu N un b) un s φ).H _ from h);exact⟨l,λM a w n g d R m=>wp_loop_rounds un (k M a w n g d R m)⟩
 | rangeFunc f ps x y G I=>exact λs φ e z i h=>(sM h).elim
 | exit id=>
  intro s φ e z i h;cases av.1 (show(C.ret _).H _ from h);exact⟨Zah _,λM a w n g _ R m=>wp_exit (m M a w (.refl n _) g)⟩
 | scope b T=>exact λs φ e z i h=>(sM h).elim
 | label l=>
  intro s φ e z i h;cases av.1 (show(C.ret _).H _ from h);exact⟨Zah _,λM a w n g _ R m=>wp_label (m M a w (.refl n _) g)⟩
 | goto l=>exact λs φ e z i h=>(sM h).elim
 | ret=>
  intro s φ e z i h;cases av.1 (show(C.ret _).H _ from h);exact⟨Zah _,λM a w n g _ R m=>wp_ret (m M a w (.refl n _) g)⟩
 | refuse y=>exact λs φ e z i h=>(sM h).elim
theorem Ϭ (h:(QkR D Z).H v):CH D v/\wc D v=Z:=by
 match Z,h with
 | [],h=>cases av.1 (show(C.ret _).H v from h);exact⟨rfl,rfl⟩
 | [x],h=>cases x<;>first | exact(sM h).elim | (cases av.1 (show(C.ret _).H v from h);exact⟨rfl,rfl⟩)
 | x::y::l,h=>cases av.1 (show(C.ret _).H v from h);exact⟨by simp[CH,hI];rfl,rfl⟩
theorem VY (B:a7 D) (b:P.follows .mixedOrders) (x:sS P) (q:sR P D ca) {f:FuncId} (h:(VX P D cd ca mu un f Z s).H (v,s')):FJ P D f Z s v s':=by
 obtain⟨fn,h1,I⟩:=an.1 h;obtain⟨c,J,K⟩:=an.1 I;obtain⟨L,N⟩:=bz.1 K;obtain⟨φ,O,Q⟩:=an.1 N;obtain⟨⟨e,s1,φ1⟩,S,g⟩:=an.1 Q;obtain⟨i,j⟩:=bz.1 g;obtain⟨vs,m,n⟩:=an.1 j;obtain⟨u,o,p⟩:=an.1 n;cases av.1 p;have a:=bC.1 h1;have C:=bC.1 J;obtain⟨l,k⟩:=ϫ B b x q c _ _ _ _ _ S;refine⟨l,⟨fn,c,a,C⟩,λM A w T V r R U=>calls_of_wp a C ?_⟩;have hl:Z.length<=fn.ntmps:=by have:=cu.1 L;rwa [hI] at this
 refine k M _ w V (zu O T hl) r _ λG y d t z=>?_
 obtain⟨vs',g1,g2⟩:=wM B m z t.fJ;obtain⟨Y,args⟩:=Ϭ o;obtain⟨F,W,X⟩:=tU (res:=v) g2 Y (by rw[args];exact g1);have fin:y.defers=[]/\∃v,(results fn y.tmps).run P d=.ok v d/\R (.returned v) d:=⟨z.defers,F,W,U G F d X t⟩;cases e with
 | normal=>exact fin
 | ret=>exact fin
 | exit id=>cases i
theorem VZ (d:a7 D) (b:P.follows .mixedOrders) (c:sS P) {tab:List (bk D)} (ht:∀k∈tab,JE P D k) (a:List (Nat×List Nat)):∀n,sR P D (inl P D cd un tab a n)
 | 0=>Bs d ht
 | n+1=>λf args s v e h=>by
  rcases gS.1 (show(bE (Ba (Wv D tab f args s)) (VX P D cd (inl P D cd un tab a n) ((cy a f).getD []) un f args s) (Wv D tab f args s)).H (v,e) from h) with⟨_,h⟩ | ⟨_,h⟩
  ·exact VY d b c (VZ d b c ht a n) h
  ·exact Bs d ht f args s v e h
end
end sx
end Go.Proofs.YtiiiphndmbabcaaGreat
