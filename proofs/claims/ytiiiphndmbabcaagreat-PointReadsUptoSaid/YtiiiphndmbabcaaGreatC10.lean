/- PointReads: a part of the proof. -/
import Derived.Test.YtiiiphndmbabcaaGreatC9
set_option linter.all false
namespace Go.Proofs.YtiiiphndmbabcaaGreat
open Go.Proofs.Tryz
set_option maxRecDepth 100000
set_option maxHeartbeats 4000000
namespace sx
noncomputable section
open Go Go.RowKit cls syn
theorem FA (l:List ah):l.length<=(aA l).length:=by
 induction l with
 | nil=>simp
 | cons a l b=>simp only[aA,Zab,Zae];rw[bT];simp;omega
theorem yP {y:ah} (h:dO y) {x:Nat} (c:x<y.ae.length):dO (y.ae.getD x bF)/\pA y x++dg (y.ae.getD x bF)=pA y (x+1)/\(pA y (x+1)).length<=1000000:=by
 obtain⟨h1,a⟩:=h;have ht:=cq bF c;have d:y.ae=y.ae.take x++(y.ae.getD x bF::y.ae.drop (x+1)):=by
  simp_all
 have b:aA y.ae=aA (y.ae.take x)++(aD (y.ae.getD x bF)++aA (y.ae.drop (x+1))):=by
  grind [cG,aA]
 have hs:aA (y.ae.take (x+1))=aA (y.ae.take x)++aD (y.ae.getD x bF):=by
  grind [cG,aA]
 have hlen:=ZaR List.length b;simp only[Zab] at hlen;rw[bT] at h1;simp only[Zae] at h1;unfold pA dg;rw[aC,aC,aC,hs];refine⟨⟨ω,λz hz=>a z ?_⟩,rfl,by grind⟩;grind [bT]
theorem dO.few {y:ah} (h:dO y):y.ae.length<=1000000:=by
 have:=FA y.ae;have h1:=h.1;grind [bT]
theorem Qsf (y:ah) (a:I_.pre y):V2 y:=by
 have a:dO y:=a;have hk:=a.few;unfold V2;have b:∀n,gt (ah.mk 0 [] 0 0 false 0 0 []) y.ae n=y.ae.getD n bF:=λ_=>rfl
 simp only[bC,fm,dA,hU,au,aT,br,b,bR,Zad];refine⟨⟨0,by unfold pA;rw[aC];rfl,rfl,Zaj _⟩,λx c=>⟨λe=>?_,λe=>?_⟩⟩
 ·obtain⟨k1,k2,k3⟩:=yP a (show x<y.ae.length by omega);rw[k2];exact⟨ω,e,⟨k1,iP ω⟩,ω,x+1,rfl,bK ω,ω,ω⟩
 ·grind [pA,dg,bT]
def QcK:Ok I_:=RC dm ϗ trivial Qsf
theorem Qsg (y:ah×ah) (O:Oz.pre y):V3 y:=by
 obtain⟨a,b⟩:=y;obtain⟨o,K⟩:dO a/\dO b:=O;have I:vD a b=decide (aD a=aD b):=by grind [vD,aC]
 have G:∀i,Fz (a,b) i↔(i<=(aD a).length/\(aD a).length=(aD b).length/\∀j,j<i->(aD a).getD j (nd 0)=(aD b).getD j (nd 0)):=λi=>by grind [Fz,dg,aC]
 have H:∀i k,OA (a,b) i k↔(Fz (a,b) i/\i<(aD a).length/\({ (aD a).getD i (nd 0) with r:=[] }={ (aD b).getD i (nd 0) with r:=[] }/\((aD a).getD i (nd 0)).r.length=((aD b).getD i (nd 0)).r.length)/\k<=((aD a).getD i (nd 0)).r.length/\∀j,j<k->((aD a).getD i (nd 0)).r.getD j (0,0)=((aD b).getD i (nd 0)).r.getD j (0,0)):=λi k=>by unfold OA dg;rw[aC,aC]
 have Q:(aD a).length<=1000000:=o.1;have m:∀i,i<(aD a).length->((aD a).getD i (nd 0)).r.length<=1000000:=λi hi=>o.2 _ (by grind)
 unfold V3;have L:∀(l:List Nd) n,gt (Nd.mk 0 [] 0 0 false 0 0) l n=l.getD n (nd 0):=λ_ _=>rfl
 have s:∀(l:List Rg) n,gt (0,0) l n=l.getD n (0,0):=λ_ _=>rfl
 have D:∀{p q:Bool},oD p q↔p=q:=λ{p q}=>by simp[oD]
 have E:∀{p q:Bool},oD p q=false↔p≠q:=λ{p q}=>by grind
 have J:∀t:ah,dg t=aD t:=λt=>by unfold dg;rw[aC]
 simp only[bL,bC,au,L,s,D,E,bR,Zad,Zan,Zao,ZaW,Zbz,J,G,H,I];generalize aD a=A at*
 generalize aD b=B at*
 have ne:∀i,A.getD i (nd 0)≠B.getD i (nd 0)->false=decide (A=B):=λi h=>by
  grind
 refine⟨o,K,λhl=>?_,λhl=>⟨⟨0,rfl,Zaj _,ω,λj f=>absurd f (Zbo _)⟩,λx N=>⟨λe=>?_,λe=>?_⟩⟩⟩
 ·grind
 ·obtain⟨c1,c2,c3⟩:=N;have g:x<A.length:=ω;have d:(x:Int)<(B.length:Int):=ω;have c:(0:Int)<=(x:Int):=ω;have R:=m x g;have ne:=ne x;generalize hu:A.getD x (nd 0)=u at*
  generalize C:B.getD x (nd 0)=v at*
  refine⟨c,e,c,d,λq=>ne λh=>q (by rw[h]),λq1=>⟨c,e,c,d,λq=>ne λh=>q (by rw[h]),λS=>⟨c,e,c,d,λq=>ne λh=>q (by rw[h]),λT=>⟨c,e,c,d,λq=>ne λh=>q (by rw[h]),λU=>⟨c,e,c,d,λq=>ne λh=>q (by rw[h]),λV=>⟨c,e,c,d,λq=>ne λh=>q (by rw[h]),λW=>⟨c,e,c,d,λq=>ne λh=>q (by rw[h]),λX=>?_⟩⟩⟩⟩⟩⟩⟩;have hw:({ u with r:=[] }:Nd)={ v with r:=[] }:=by grind
  have w:u.r.length=v.r.length:=ω;refine⟨x,⟨0,rfl,⟨c1,c2,c3⟩,g,⟨by grind,by grind⟩,Zaj _,λj f=>absurd f (Zbo _)⟩,λk hk=>?_⟩;obtain⟨_,_,_,F,z⟩:=hk;rw[hu] at F z;rw[C] at z;refine⟨c,e,λek=>⟨c,e,ω,ek,c,d,ω,ω,λq=>ne λh=>?_,λq=>⟨k+1,bK ω,⟨⟨c1,c2,c3⟩,g,⟨by grind,ω⟩,by grind,λj f=>?_⟩,by grind⟩⟩,λek=>⟨x+1,bK ω,⟨ω,c2,λj f=>?_⟩,ω⟩⟩
  ·grind
  ·grind
  ·rcases Zbm j x with h | h
   ·exact c3 j h
   ·rw[show j=x by omega,hu,C];have M:u.r=v.r:=Zdx w λj h1 P=>by
     grind
    obtain⟨Y,Z,u3,u4,u5,u6,u7⟩:=u;obtain⟨v1,v2,v3,v4,v5,v6,v7⟩:=v;grind
 ·grind [List.ext_getElem]
def QkC:Ok Oz:=okZ [I_] f258 Qsb QcK Qsg
theorem Qsh (y:ah) (a:Ja.pre y):V4 y:=by
 have a:dO y:=a;have hk:=a.few;have ge:=UQ y;unfold V4;have d:∀n,gt (ah.mk 0 [] 0 0 false 0 0 []) y.ae n=y.ae.getD n bF:=λ_=>rfl
 simp only[bL,bC,au,d,bR,Zad];refine⟨λh=>by grind,λh=>⟨⟨0,rfl,Zaj _,λj c=>absurd c (Zbo _)⟩,λx f=>⟨λe=>?_,λe=>?_⟩⟩⟩
 ·have b:x<y.ae.length:=ω;obtain⟨k1,_,_⟩:=yP a b;refine⟨ω,e,⟨k1,iP b⟩,λq=>?_,λq=>⟨x+1,bK ω,⟨b,λj c=>?_⟩,ω⟩⟩
  ·grind
  ·grind
 ·grind [List.getElem_of_mem]
def QkD:Ok Ja:=RC dm ϙ trivial Qsh
abbrev vE (n:Nat) (t:ah):Nat×AO D.E:=(n,.cells (D.a_ 15 t) 221 false)
abbrev tkO (n:Nat):Nat×AO D.E:=(n,.tok 15 221)
variable {l:List ah}
def QkF (a:List (AV D.E)) (s:St D.E):C (List ah):=match a with
 | [l]=>az (aL D s 15 l) λl=>.ret (l:List ah)
 | _=>.fail
def ft (l:List ah):List ah:=l.flatMap λk=>if k.op=1 then[] else if k.op=3 then k.ae else[k]
def iU (t:ah) (a:List ah):ah:=.mk t.op t.r t.mn t.mx t.lz t.cap t.nk a
def Jb (t:ah):ah:=match ft t.ae with
 | []=>.mk 1 [] 0 0 false 0 0 []
 | [k]=>k
 | a=>iU t a
def Jc:bh D:=bO 187 ah (λa _=>vp a) (λy=>y.ae.length<=1000000/\(ft y.ae).length<=1000000) (λy=>[.agg (D.a_ 15 y)]) λy=>.agg (D.a_ 15 (lk (Jb y)))
def Qsi (y:Jc.Y):cH D:=⟨[],[],[(58,⟨Nat,[],λx=>[(1,.ptr 0 0),(2,.ptr 1 0),(3,.grow 15 (ft (y.ae.take x)) 2),(4,Qvo x)],[],λ_=>[vE 0 y,vE 1 bF,tkO 2],3,λx=>x<=y.ae.length,λx=>y.ae.length-x⟩)],[],1,[]⟩
def e_:List ah->List ah->List ah
 | _,[]=>[]
 | s,k::l=>if s.any (λx=>vD x k)=true then e_ (s++[k]) l else k::e_ (s++[k]) l
def OB:bh D:=bO 227 (List ah) QkF dT (λy=>[.list 15 y]) λy=>.list 15 (lk (e_ [] y))
def zP (y:List ah) (x:List ah×Nat):Prop:=x.2<=y.length/\x.1.length<=x.2/\x.1++e_ (y.take x.2) (y.drop x.2)=e_ [] y
def Jd (y:List ah) (i k:Nat):Bool:=lk ((y.take k).any λx=>vD x (y.getD i bF))
def Qsk (y:OB.Y):cH D:=⟨[],[],[(58,⟨List ah×Nat,[0],λx=>[(3,.grow 15 x.1 0),(4,Qvo x.2)],[],λ_=>[tkO 0],1,zP y,λx=>y.length-x.2⟩)],[],1,
 [(14922,⟨List ah×Nat,λx=>⟨Nat,[0,4],λk=>[(3,.grow 15 x.1 0),(5,.bool (Jd y x.2 k)),(6,Qvo k)],[],λ_=>[tkO 0],1,λk=>k<=x.2/\x.2<y.length/\zP y x,λk=>x.2-k⟩,none⟩)]⟩
def OC:bh D:=bO 226 (List ah) QkF (λy=>y.length<=1000000/\tP y) (λy=>[.list 15 y]) λy=>.list 15 (bI [] y)
def Qsm (y:OC.Y):cH D:=⟨[],[8],[(58,⟨List ah×Nat,[0],λx=>[(3,.own 0 8 (ag x.1)),(4,Qvo x.2)],[],λx=>[(0,.arr 15 x.1 221 false)],1,sK y,λx=>y.length-x.2⟩)],[],1,[]⟩
def wq (l:List ah):List ah:=bI [] (e_ [] l)
def iV:Nat->List ah->List ah
 | 0,l=>wq l
 | n+1,l=>if (wq l).length<l.length then iV n (wq l) else wq l
def Je (t:ah):ah:=match iV (aF 4 t.ae).length (aF 4 t.ae) with
 | [k]=>k
 | a=>iU t a
def Jf:bh D:=bO 188 ah (λa _=>vp a) (λy=>y.ae.length<=1000000/\dT (aF 4 y.ae)) (λy=>[.agg (D.a_ 15 y)]) λy=>.agg (D.a_ 15 (lk (Je y)))
def Qso (y:Jf.Y):cH D:=⟨[],[],[(58,⟨Nat,[],λx=>[(1,.ptr 0 0),(2,.ptr 1 0),(3,.grow 15 (aF 4 (y.ae.take x)) 2),(5,Qvo x)],[],λ_=>[vE 0 y,vE 1 bF,tkO 2],3,λx=>x<=y.ae.length/\(aF 4 (y.ae.take x)).length<=1000000,λx=>y.ae.length-x⟩),
 (124,⟨List ah,[],λx=>[(1,.ptr 0 0),(2,.ptr 1 0),(3,.list 15 x),(4,.list 15 (lk (wq x)))],[],λ_=>[vE 0 y,vE 1 bF],2,λx=>dT x/\x.length<=(aF 4 y.ae).length/\iV x.length x=iV (aF 4 y.ae).length (aF 4 y.ae),λx=>x.length⟩)],[],1,[]⟩
def Qsq (y:ah):Prop:=π y/\y.op=5
def Jg:bh D:=bO 189 ah (λa _=>vp a) Qsq (λy=>[.agg (D.a_ 15 y)]) λy=>.agg (D.a_ 15 (lk (cV y)))
def Qsr (y:Jg.Y):cH D:=⟨[],[],[],[(7,⟨Unit,[],λ_=>[(1,.ptr 0 0),(2,.ptr 1 0),(3,.ptr 2 0)],[],λ_=>[vE 0 (vq y),vE 1 bF,vE 2 (bG y)],3,λ_=>True,λ_=>0⟩)],1,[]⟩
def V5 (y:ah):Prop:=let a:=lk (Jb y);let q1:=y.ae;let c:=q1.length;let g:=λp:Prop=>RAC (RAB (RAA p));let h:=λp:Prop=>RAA (RAF (RA0 y (RAG q1 p)));let u:=ah.mk 0 [] 0 0 false 0 0 [];(∃z:Nat,[]=ft (List.take z q1)/\0=(z:Int)/\g (false=false/\h ((Iv (z<=c)))))/\(∀x:Nat,let d:=ft (List.take x q1);let f:=aw (x:Int) (ag q1);let e:=gt u d 0;let b:=gt u q1 (x:Int).toNat;let i:=bM d [ah.mk b.op b.r b.mn b.mx b.lz b.cap b.nk b.ae];(Iv (x<=c))->aj f (aG 0 (x:Int)/\f/\aj (aB b.op 1) (∃z:Nat,d=ft (List.take z q1)/\ay .i64 (x:Int) 1=(z:Int)/\g (false=false/\h ((Iv (z<=c/\(c-z)<(c-x)))))) (aj (aB b.op 3) (aG 0 (x:Int)/\f/\bJ (ag (bM d b.ae)) 96/\∃z:Nat,bM d b.ae=ft (List.take z q1)/\ay .i64 (x:Int) 1=(z:Int)/\g (false=false/\h ((Iv (z<=c/\(c-z)<(c-x)))))) (aG 0 (x:Int)/\f/\bJ (ag i) 96/\∃z:Nat,i=ft (List.take z q1)/\ay .i64 (x:Int) 1=(z:Int)/\g (false=false/\h ((Iv (z<=c/\(c-z)<(c-x)))))))) (aj (aB (ag d) 0) (1=a.op/\[]=a.r/\0=a.mn/\0=a.mx/\false=a.lz/\0=a.cap/\0=a.nk/\[]=a.ae/\True) (aj (aB (ag d) 1) (Tt 1 (aw 0 (ag d)/\e.op=a.op/\e.r=a.r/\e.mn=a.mn/\e.mx=a.mx/\e.lz=a.lz/\e.cap=a.cap/\e.nk=a.nk/\e.ae=a.ae/\True)) (y.op=a.op/\y.r=a.r/\y.mn=a.mn/\y.mx=a.mx/\y.lz=a.lz/\y.cap=a.cap/\y.nk=a.nk/\d=a.ae/\True))))
def V6 (y:List ah):Prop:=let e:=y.length;let u:=ah.mk 0 [] 0 0 false 0 0 [];(∃z:(List ah)×Nat,RAG y ([]=z.1/\0=(z.2:Int)/\(Iv (zP y z))))/\(∀x:(List ah)×Nat,let q1:=(x.2:Int);let a:=gt u y q1.toNat;let f:=ah.mk a.op a.r a.mn a.mx a.lz a.cap a.nk a.ae;let g:=([f]:List ah);(Iv (zP y x))->aj (aw q1 (ag y)) (∃z:(List ah)×Nat,(∃c:Nat,RAH y q1 (x.1=z.1/\false=Jd y z.2 c/\0=(c:Int)/\(Iv (c<=z.2/\z.2<e/\zP y z))))/\(∀d:Nat,let h:=Jd y z.2 d;let j:=aw (d:Int) q1;let b:=gt u y (d:Int).toNat;let i:=ah.mk b.op b.r b.mn b.mx b.lz b.cap b.nk b.ae;(Iv (d<=z.2/\z.2<e/\zP y z))->aj j (aj h (∃c:Nat,RAI y q1 z.1 (true=Jd y z.2 c/\ay .i64 (d:Int) 1=(c:Int)/\(Iv ((c<=z.2/\z.2<e/\zP y z)/\(z.2-c)<(z.2-d))))) (aG 0 (d:Int)/\aw (d:Int) (ag y)/\aG 0 q1/\aw q1 (ag y)/\Iv (dO i/\dO f)/\RA0 b (RAG b.ae (RA0 a (RAG a.ae (RA0 b (RAG b.ae (RA0 a (RAG a.ae (∃c:Nat,aa [y] (aa [q1] (aa [z.1] (vD i f=Jd y z.2 c/\ay .i64 (d:Int) 1=(c:Int)/\(Iv ((c<=z.2/\z.2<e/\zP y z)/\(z.2-c)<(z.2-d)))))))))))))))) (aj (!h) (aG 0 q1/\aw q1 (ag y)/\bJ (ag (bM z.1 g)) 96/\∃c:(List ah)×Nat,RAG y (bM z.1 g=c.1/\ay .i64 q1 1=(c.2:Int)/\(Iv (zP y c/\(e-c.2)<(e-x.2))))) (∃c:(List ah)×Nat,RAG y (z.1=c.1/\ay .i64 q1 1=(c.2:Int)/\(Iv (zP y c/\(e-c.2)<(e-x.2)))))))) (x.1=lk (e_ [] y)/\True))
def V7 (y:List ah):Prop:=let e:=y.length;let j:=λp:Prop=>RAG y p;let u:=ah.mk 0 [] 0 0 false 0 0 [];(∃z:(List ah)×Nat,j (0=ag z.1/\0=(z.2:Int)/\[]=z.1/\(Iv (sK y z))))/\(∀x:(List ah)×Nat,let d:=ag x.1;let b:=(x.2:Int);let c:=cx .i64 d 1;let a:=gt u y b.toNat;let f:=gt u x.1 c.toNat;let g:=bM (bM [] f.r) a.r;let h:=bM x.1 [ah.mk a.op a.r a.mn a.mx a.lz a.cap a.nk a.ae];let i:Prop:=(aG 0 b/\aw b (ag y)/\bJ (ag h) 96/\∃z:(List ah)×Nat,j (ag h=ag z.1/\ay .i64 b 1=(z.2:Int)/\h=z.1/\(Iv (sK y z/\(e-z.2)<(e-x.2)))));(Iv (sK y x))->aj (aw b (ag y)) (aj (aw 0 d) (aG 0 c/\aw c d/\aj (aB f.op 2) (aG 0 b/\aw b (ag y)/\aj (aB a.op 2) (aG 0 c/\aw c d/\bJ (ag (bM [] f.r)) 8/\aG 0 b/\aw b (ag y)/\bJ (ag g) 8/\Iv (g.length<=2000000)/\RAG g (aG 0 c/\aw c d/\aa [f.r,a.r,a.r] (∃z:(List ah)×Nat,j (d=ag z.1/\ay .i64 b 1=(z.2:Int)/\cS x.1 c.toNat (ah.mk 2 (aU g) 0 0 false 0 0 [])=z.1/\(Iv (sK y z/\(e-z.2)<(e-x.2))))))) (i)) (i)) (i)) (x.1=bI [] y/\True))
def V8 (y:ah):Prop:=let d:=lk (Je y);let q1:=y.ae;let m:=(aF 4 q1).length;let n:=λp:Prop=>RAA (RAF (RA0 y (RAG q1 p)));let o:=λp:Prop=>RAC (RAB (RAA p));let A:=ah.mk 0 [] 0 0 false 0 0 [];(∃z:Nat,let u:=aF 4 (List.take z q1);[]=u/\0=(z:Int)/\o (false=false/\n ((Iv (z<=q1.length/\u.length<=1000000)))))/\(∀x:Nat,let g:=q1.length;let q:=aw (x:Int) (ag q1);let f:=aF 4 (List.take x q1);let s:=lk (e_ [] f);let a:=gt A q1 (x:Int).toNat;let i:=bM f [ah.mk a.op a.r a.mn a.mx a.lz a.cap a.nk a.ae];(Iv (x<=g/\f.length<=1000000))->aj q (aG 0 (x:Int)/\q/\aj (aB a.op 4) (aG 0 (x:Int)/\q/\bJ (ag (bM f a.ae)) 96/\∃z:Nat,let j:=aF 4 (List.take z q1);bM f a.ae=j/\ay .i64 (x:Int) 1=(z:Int)/\o (false=false/\n ((Iv ((z<=g/\j.length<=1000000)/\(g-z)<(g-x)))))) (aG 0 (x:Int)/\q/\bJ (ag i) 96/\∃z:Nat,let k:=aF 4 (List.take z q1);i=k/\ay .i64 (x:Int) 1=(z:Int)/\o (false=false/\n ((Iv ((z<=g/\k.length<=1000000)/\(g-z)<(g-x))))))) (Iv (dT f)/\RAG f (Iv (s.length<=1000000/\tP s)/\aa [s] ((∃z:List ah,f=z/\bI [] s=lk (wq z)/\o (false=false/\n ((Iv (dT z/\z.length<=m/\iV z.length z=iV m (aF 4 q1))))))/\(∀h:List ah,let b:=lk (wq h);let e:=lk (e_ [] b);let t:=aw (ag b) (ag h);let c:=gt A b 0;let l:=iV m (aF 4 q1);(Iv (dT h/\h.length<=m/\iV h.length h=l))->aj t (Iv (dT b)/\aa [b] (Iv (e.length<=1000000/\tP e)/\aa [e] (∃z:List ah,b=z/\bI [] e=lk (wq z)/\o (false=false/\n ((Iv ((dT z/\z.length<=m/\iV z.length z=l)/\z.length<h.length))))))) (aj (aB (ag b) 1) (Tt 1 (aw 0 (ag b)/\c.op=d.op/\c.r=d.r/\c.mn=d.mn/\c.mx=d.mx/\c.lz=d.lz/\c.cap=d.cap/\c.nk=d.nk/\c.ae=d.ae/\True)) (y.op=d.op/\y.r=d.r/\y.mn=d.mn/\y.mx=d.mx/\y.lz=d.lz/\y.cap=d.cap/\y.nk=d.nk/\b=d.ae/\True)))))))
def V9 (y:ah):Prop:=let a:=bG y;let q1:=lk (cV y);let d:=a.ae;let u:=ah.mk 0 [] 0 0 false 0 0 [];let c:=gt u y.ae 0;let n:=aB (gt u d 0).op 2;let i:=y.lz&&(decide (Ne y.mn y.mx));let j:=ah.mk a.op a.r a.mn a.mx a.lz a.cap a.nk d;let l:=λp:Prop=>RAC (RAB (RAA p));let m:=λp:Prop=>RAA (RAF (RAJ y.op y.r y.mn y.mx p));let k:Prop:=(RAI y.cap y.nk y.ae ((Iv True)));let e:Prop:=(a.mx=q1.mx/\a.lz=q1.lz/\a.cap=q1.cap/\a.nk=q1.nk/\d=q1.ae/\True);let f:Prop:=(a.op=q1.op/\a.r=q1.r/\a.mn=q1.mn/\e);let b:Prop:=(y.op=q1.op/\y.r=q1.r/\y.mn=q1.mn/\y.mx=q1.mx/\i=q1.lz/\y.cap=q1.cap/\y.nk=q1.nk/\y.ae=q1.ae/\True);let g:Prop:=(aj (aB a.op 5) (Tt 1 (aw 0 (ag d)/\aj n (aj (!i) (aj (!a.lz) (aj (aB y.mx (-1)) (aj (aB a.mx (-1)) (aj (aG y.mn 1) (aj (aG a.mn 1) (a.op=q1.op/\a.r=q1.r/\gG .i64 a.mn y.mn=q1.mn/\e) (b)) (b)) (b)) (b)) (b)) (b)) (b))) (b));let h:Prop:=(aj (aB y.mx 0) (Iv (dO j)/\RA0 a (RAG d (aj (!(fo j)) (1=q1.op/\[]=q1.r/\0=q1.mn/\0=q1.mx/\false=q1.lz/\0=q1.cap/\0=q1.nk/\[]=q1.ae/\True) (g)))) (g));Tt 1 (aw 0 (ag y.ae)/\(aj (aB y.mn y.mx) (∃z:Unit,c.op=a.op/\c.r=a.r/\c.mn=a.mn/\c.mx=a.mx/\c.lz=a.lz/\c.cap=a.cap/\c.nk=a.nk/\c.ae=d/\l (false=false/\m (false=i/\k))) (∃z:Unit,c.op=a.op/\c.r=a.r/\c.mn=a.mn/\c.mx=a.mx/\c.lz=a.lz/\c.cap=a.cap/\c.nk=a.nk/\c.ae=d/\l (false=false/\m (y.lz=i/\k))))/\(∀x:Unit,(Iv True)->aj (aB a.op 1) (f) (aj (aB y.mn 1) (aj (aB y.mx 1) (f) (h)) (h))))
theorem fields {a b:ah} (h:b=a):a.op=b.op/\a.r=b.r/\a.mn=b.mn/\a.mx=b.mx/\a.lz=b.lz/\a.cap=b.cap/\a.nk=b.nk/\a.ae=b.ae:=by
 grind
def yQ (t:ah) (a:List ah):t.op=(iU t a).op/\t.r=(iU t a).r/\t.mn=(iU t a).mn/\t.mx=(iU t a).mx/\t.lz=(iU t a).lz/\t.cap=(iU t a).cap/\t.nk=(iU t a).nk/\a=(iU t a).ae:=⟨rfl,rfl,rfl,rfl,rfl,rfl,rfl,rfl⟩
theorem OD (a b:List ah):ft (a++b)=ft a++ft b:=by grind [ft]
theorem Jh {x:Nat} (a:x<l.length):ft (l.take (x+1))=ft (l.take x)++(if (l.getD x bF).op=1 then[] else if (l.getD x bF).op=3 then(l.getD x bF).ae else[l.getD x bF])/\(ft (l.take (x+1))).length<=(ft l).length:=by
 constructor
 ·grind [cq,ft]
 ·grind [List.take_append_drop,OD]
theorem Qst (y:ah) (f:Jc.pre y):V5 y:=by
 obtain⟨h1,g⟩:y.ae.length<=1000000/\(ft y.ae).length<=1000000:=f;unfold V5;have d:∀(l:List ah) n,gt (ah.mk 0 [] 0 0 false 0 0 []) l n=l.getD n bF:=λ_ _=>rfl
 simp only[bL,bC,au,aT,br,d,bR,Zad,aC];refine⟨⟨0,by rfl,rfl,Zaj _⟩,λx i=>⟨λe=>?_,λe=>?_⟩⟩
 ·have c:x<y.ae.length:=ω;have⟨j,m⟩:=Jh c;grind
 ·rw[show x=y.ae.length by omega,ZaM];unfold Jb
  match ft y.ae with
  | []=>exact⟨λ_=>⟨rfl,rfl,rfl,rfl,rfl,rfl,rfl,rfl⟩,λh=>absurd rfl h⟩
  | [k]=>exact⟨λh=>by simp at h,λ_=>⟨λ_=>⟨by simp,rfl,rfl,rfl,rfl,rfl,rfl,rfl,rfl⟩,λh=>by simp at h⟩⟩
  | a::b::l=>exact⟨λh=>by grind,λ_=>⟨λh=>by grind,λ_=>yQ _ _⟩⟩
def QkG:Ok Jc:=okZ [] f187 Qsi trivial Qst
theorem n9:∀(l s:List ah),(e_ s l).Sublist l
 | [],s=>List.Sublist.refl _
 | k::l,s=>by
  rw[e_];split
  ·exact(n9 l _).cons _
  ·exact(n9 l _).cons₂ _
theorem Ji:∀{l m:List ah},l.Sublist m->∀{n:Nat},NL n (aA m)->NL n (aA l)
 | _,_,.slnil,_,h=>h
 | _,_,.cons a hs,_,h=>by
  have⟨p1,p2,p3⟩:=nW h;have:=Ji hs p2;exact this.to ω
 | _,_,.cons₂ a hs,_,h=>by
  have⟨p1,p2,p3⟩:=nW h;have:=Ji hs p2;exact(p1.app this).to p3
def Jj (h:dT l):dT (e_ [] l)/\(e_ [] l).length<=l.length:=⟨Ji (n9 l []) h,(n9 l []).length_le⟩
theorem Qsu (y:List ah) (b:OB.pre y):V6 y:=by
 have hl:=b.len;have c:∀i k,Jd y i k=(y.take k).any λx=>vD x (y.getD i bF):=λi k=>by grind [Jd,aC]
 unfold V6;have h:∀(l:List ah) n,gt (ah.mk 0 [] 0 0 false 0 0 []) l n=l.getD n bF:=λ_ _=>rfl
 simp only[bL,bC,au,aT,br,h,bR,Zad,aC,Zan,Zao,c];refine⟨⟨([],0),rfl,rfl,Zaj _,Zah _,rfl⟩,λx a=>⟨λe=>⟨x,⟨0,rfl,rfl,rfl,Zaj _,ω,a⟩,λk hk=>⟨λek=>?_,λek=>?_⟩⟩,λe=>?_⟩⟩
 ·have⟨k1,k2,_⟩:=hk;have j:k<y.length:=ω;have ht:∀f:ah->Bool,(y.take (k+1)).any f=((y.take k).any f||f (y.getD k bF)):=λf=>by grind [cq]
  refine⟨λq=>⟨k+1,by grind,bK ω,⟨ω,k2,a⟩,ω⟩,λq=>⟨ω,ω,ω,e,⟨b.get j,b.get k2⟩,k+1,by grind,bK ω,⟨ω,k2,a⟩,ω⟩⟩
 ·have⟨k1,k2,_⟩:=hk;have:k=x.2:=ω;subst this;have⟨i1,i2,i3⟩:=a;have g:y.drop x.2=y.getD x.2 bF::y.drop (x.2+1):=by simp_all
  rw[g,e_] at i3;have d:y.take x.2++[y.getD x.2 bF]=y.take (x.2+1):=(cq bF k2).symm;rw[d] at i3;refine⟨λq=>?_,λq=>?_⟩
  ·exact⟨ω,e,by grind,(x.1++[y.getD x.2 bF],x.2+1),rfl,bK ω,⟨k2,by grind,by grind⟩,show y.length-(x.2+1)<y.length-x.2 by omega⟩
  ·rw[Zac q] at i3;exact⟨(x.1,x.2+1),rfl,bK ω,⟨k2,by grind,i3⟩,show y.length-(x.2+1)<y.length-x.2 by omega⟩
 ·have⟨i1,i2,i3⟩:=a;grind [e_]
def QkH:Ok OB:=okZ [Oz] f227 Qsk QkC Qsu
theorem Qsv (y:List ah) (p:OC.pre y):V7 y:=by
 obtain⟨hl,j⟩:y.length<=1000000/\tP y:=p;unfold V7;have f:∀(l:List ah) n,gt (ah.mk 0 [] 0 0 false 0 0 []) l n=l.getD n bF:=λ_ _=>rfl
 simp only[bL,bC,au,aT,br,f,bR,Zad,Zcb];refine⟨⟨([],0),rfl,rfl,rfl,Zaj _,rfl,Zah _,λt ht=>nomatch ht⟩,λx m=>?_⟩;have⟨o,i⟩:=x;obtain⟨c1,c2,c3,c4⟩:i<=y.length/\bI o (y.drop i)=bI [] y/\o.length<=i/\tP o:=m;simp only;refine⟨λe=>?_,λe=>?_⟩
 ·have d:y.drop i=y.getD i bF::y.drop (i+1):=by simp_all
  have hk:(y.getD i bF).r.length<=1000000:=j _ (by grind);rw[d,bI] at c2;have s:=jk o (y.getD i bF);have q:=E0 c4 hk;have step:∀z,z=dL o (y.getD i bF)->sK y (z,i+1)/\y.length-(i+1)<y.length-i:=λz hz=>by
   subst hz;exact⟨⟨show i+1<=y.length by omega,c2,show(dL o (y.getD i bF)).length<=i+1 by omega,q⟩,ω⟩
  generalize y.getD i bF=k at*
  have b:¬(o.length≠0/\k.op=2/\(ox o).op=2)->(0:Int)<=(i:Int)/\(i:Int)<(y.length:Int)/\(((o++[k]).length:Nat):Int)*(96:Nat)<=140737488355328/\∃z:List ah×Nat,(((o++[k]).length:Nat):Int)=((z.1.length:Nat):Int)/\ay .i64 (i:Int) 1=(z.2:Int)/\o++[k]=z.1/\sK y z/\y.length-z.2<y.length-i:=λh=>by
   grind [dL]
  refine⟨λh0=>?_,λh0=>b λh=>h.1 ω⟩;rw[A0 ω ω];have c:o.getD (((o.length-1:Nat):Int).toNat) bF=ox o:=rfl;have g:(ox o).r.length<=1000000:=c4 _ (by grind);simp only[c];refine⟨ω,ω,λh1=>⟨ω,e,λa=>⟨ω,ω,ω,ω,e,by grind,by grind,ω,ω,(dL o k,i+1),?_,bK ω,?_,step _ rfl⟩,λa=>b λh=>a h.2.1⟩,λh1=>b λh=>h1 h.2.2⟩
  ·grind [dL]
  ·unfold dL;rw[Zac ⟨ω,a,h1⟩];rfl
 ·grind [bI]
def QkI:Ok OC:=okZ [lW] f226 Qsm (HB ri) Qsv
def QkJ (h:dT l):dT (wq l)/\(wq l).length<=l.length:=by
 have⟨c,d⟩:=Jj h;have⟨a,b⟩:=Ll c;exact⟨a,Zav b d⟩
theorem FB:∀(n m:Nat) (l:List ah),l.length<=n->l.length<=m->iV n l=iV m l
 | 0,0,l,_,_=>rfl
 | 0,m+1,l,h,_=>by grind [iV]
 | n+1,0,l,_,h=>by grind [iV]
 | n+1,m+1,l,h1,a=>by
  rw[iV,iV];split
  ·exact FB n m _ ω ω
  ·rfl
theorem V' (h:(wq l).length<l.length):iV (wq l).length (wq l)=iV l.length l:=by
 obtain⟨k,hk⟩:∃k,l.length=k+1:=⟨l.length-1,ω⟩;grind [iV,FB]
theorem ϟ (h:¬(wq l).length<l.length):iV l.length l=wq l:=by
 cases hl:l.length with
 | zero=>rfl
 | succ k=>rw[iV,Zaa h]
theorem FC (op:Int) {x:Nat} (a:x<l.length):aF op (l.take (x+1))=aF op (l.take x)++(if (l.getD x bF).op=op then(l.getD x bF).ae else[l.getD x bF]):=by
 grind [cq,aF]
theorem Qsw (y:ah) (t:Jf.pre y):V8 y:=by
 obtain⟨h1,f⟩:y.ae.length<=1000000/\dT (aF 4 y.ae):=t;unfold V8;have s:∀(l:List ah) n,gt (ah.mk 0 [] 0 0 false 0 0 []) l n=l.getD n bF:=λ_ _=>rfl
 simp only[bL,bC,au,aT,br,s,bR,Zad,aC];refine⟨⟨0,by rfl,rfl,ω,by simp[aF]⟩,λx w=>⟨λe=>?_,λe=>?_⟩⟩
 ·have r:x<y.ae.length:=ω;have B:=FC 4 r;have C:=la 4 y.ae (x+1);have s3:=f.len;grind
 ·have i:x=y.ae.length:=ω;subst i;rw[ZaM];have⟨q,A⟩:=Jj f;refine⟨f,⟨q.len,q.rt⟩,⟨_,rfl,rfl,f,Zah _,rfl⟩,λl hl=>⟨λc=>?_,λc=>?_⟩⟩
  ·have⟨p,u,g⟩:=hl;have⟨j,z⟩:=QkJ p;have⟨o,v⟩:=Jj j;have d:(wq l).length<l.length:=ω;exact⟨j,⟨o.len,o.rt⟩,_,rfl,rfl,⟨j,ω,by rw[V' d,g]⟩,d⟩
  ·have⟨p,u,g⟩:=hl;have d:¬(wq l).length<l.length:=ω;rw[ϟ d] at g;unfold Je;rw[<-g]
   match wq l with
   | []=>exact⟨λh=>by simp at h,λ_=>yQ _ _⟩
   | [k]=>exact⟨λ_=>⟨by simp,rfl,rfl,rfl,rfl,rfl,rfl,rfl,rfl⟩,λh=>by simp at h⟩
   | a::b::m=>exact⟨λh=>by grind,λ_=>yQ _ _⟩
def QkK:Ok Jf:=okZ [OB,OC] f188 Qso ⟨QkH,QkI⟩ Qsw
theorem Qsx (y:ah) (v:Jg.pre y):V9 y:=by
 obtain⟨⟨h1,p,F,s⟩,t⟩:π y/\y.op=5:=v;unfold V9;have u:∀(l:List ah) n,gt (ah.mk 0 [] 0 0 false 0 0 []) l n=l.getD n bF:=λ_ _=>rfl
 have hk:y.ae.getD 0 bF=bG y:=rfl;have j:(bG y).ae.getD 0 bF=bG (bG y):=rfl;simp only[bL,bC,au,u,hk,j,bR,aC,Zan,Zao,ZaY,ZaZ];have R:¬(bG y).op=1->¬(y.mn=1/\y.mx=1)->¬(y.mx=0/\fo (bG y)=false)->cV y=if (y.lz&&decide (y.mn≠y.mx))=false/\y.mx= -1/\y.mn<=1/\(bG y).op=5/\(bG y).lz=false/\(bG y).mx= -1/\(bG y).mn<=1/\(bG (bG y)).op=2 then EY (bG y) y.mn else vq y:=λa b c=>by
  unfold cV;have c:(eN (Lk (vq y))/\eN (Lk (bG y))/\(bG (bG y)).op=2)↔((y.lz&&decide (y.mn≠y.mx))=false/\y.mx= -1/\y.mn<=1/\(bG y).op=5/\(bG y).lz=false/\(bG y).mx= -1/\(bG y).mn<=1/\(bG (bG y)).op=2):=by
   have E:eN (Lk (vq y))=(!(y.lz&&decide (y.mn≠y.mx))&&y.mx==-1&&decide (y.mn<=1)):=by
    show(y.op==5&&_&&_&&_)=_
    rw[t];rfl
   grind [eN,Lk]
  grind
 have q:(bG y).op=1->cV y=bG y:=λh=>by grind [cV]
 have r:¬(bG y).op=1->y.mn=1->y.mx=1->cV y=bG y:=λh a b=>by grind [cV]
 have o:¬(bG y).op=1->¬(y.mn=1/\y.mx=1)->y.mx=0->fo (bG y)=false->cV y=.mk 1 [] 0 0 false 0 0 []:=λh a b c=>by grind [cV]
 have M:(bG y).op=5->y.mn<=1->(bG y).mn<=1->gG .i64 (bG y).mn y.mn=(bG y).mn*y.mn:=λa b c=>by
  grind
 refine⟨ω,⟨λe=>?_,λe=>?_⟩,λd=>fields (q d),λd=>⟨λm1=>⟨λm2=>fields (r d m1 m2),λm2=>⟨λi=>⟨p,λg=>fields (o d ω i g),λg=>?_⟩,λi=>?_⟩⟩,λm1=>⟨λi=>⟨p,λg=>fields (o d ω i g),λg=>?_⟩,λi=>?_⟩⟩⟩
 ·grind
 ·simp[e]
 all_goals
  have e:=R d ω (by first | (intro h;omega) | (intro h;rw[g] at h;exact absurd h.2 (by simp)));refine⟨λk5=>⟨by have:=(s k5).2;omega,λk2=>⟨λz=>⟨λk=>⟨λmx=>⟨λf=>⟨λa=>⟨λb=>?_,λb=>?_⟩,λa=>?_⟩,λf=>?_⟩,λmx=>?_⟩,λk=>?_⟩,λz=>?_⟩,λk2=>?_⟩,λk5=>?_⟩
  ·rw[Zac ⟨z,mx,a,k5,k,f,b,k2⟩] at e;rw[e,M k5 a b];exact⟨rfl,rfl,rfl,rfl,rfl,rfl,rfl,rfl⟩
  all_goals
   rw[Zaa (by rintro⟨B,G,C,x,m,A,D,w⟩;first | omega | exact absurd (B.symm.trans z) ZaS | exact absurd (m.symm.trans k) ZaS)] at e;rw[e];exact⟨rfl,rfl,rfl,rfl,rfl,rfl,rfl,rfl⟩
def QkL:Ok Jg:=okZ [Ja] f189 Qsr QkD Qsx
mutual
def CU:ah->Bool
 | .mk op _ mn mx _ _ _ ks=>if op=1 then true else if op=3 then qI ks else if op=5 then(if mx=0 then true else decide (mn=mx)&&CW ks) else false
def qI:List ah->Bool
 | []=>true
 | t::l=>CU t&&qI l
def CW:List ah->Bool
 | []=>false
 | t::_=>CU t
end
def jS (t:ah):Bool:=lk (CU t)
def F8 (y:ah):Prop:=dO y/\ku y
def FD:bh D:=bO 229 ah (λa _=>vp a) F8 (λy=>[.agg (D.a_ 15 y)]) λy=>.bool (jS y)
def Qsy (y:FD.Y):cH D:=⟨[],[],[(3442,⟨Nat,[],λx=>[(1,.ptr 0 0),(3,Qvo x)],[],λ_=>[tbx y],1,λx=>x<=y.ae.length/\qI (y.ae.drop x)=qI y.ae,λx=>y.ae.length-x⟩)],[],1,[]⟩
def Qsz (y:FD.Y):Prop:=vc [FD.under dm (dm y)] f229 FD Qsy y
structure dr where
 af:List aW
 bU:Bool
def bH (y:dr) (i:aW):dr×Int:=if 400<=y.af.length then(⟨y.af,true⟩,0) else(⟨y.af++[i],y.bU⟩,y.af.length)
def ly (y:dr) (lz:Bool) (j:Int):dr:=if y.bU=true then y else⟨fx y.af.length lz y.af j,false⟩
def dZ (g:List aW->Int->List aW) (y:dr) (a:List Int):dr:=if y.bU=true then y else⟨a.foldl g y.af,false⟩
def n' (f:dr->dr) (q:Bool):Nat->dr->dr
 | 0,s=>s
 | n+1,s=>if s.bU\/q=true then s else n' f q n (f s)
def jT (f:dr->dr):Nat->dr->List Int->dr×List Int
 | 0,s,j=>(s,j)
 | n+1,s,j=>if s.bU=true then(s,j) else jT f n (f (bH s ⟨2,0,0,[]⟩).1) (j++[(bH s ⟨2,0,0,[]⟩).2])
def Bp (f:dr->dr) (lz:Bool) (s:dr):dr:=ly (bH (f (bH s ⟨2,0,0,[]⟩).1) ⟨3,(bH s ⟨2,0,0,[]⟩).2,0,[]⟩).1 lz (bH s ⟨2,0,0,[]⟩).2
def yR (f:dr->dr) (q:Bool) (mn mx:Int) (lz:Bool) (s:dr):dr:=
 if mx= -1 then Bp f lz (n' f q mn.toNat s)
 else dZ (fx (jT f (lj mn mx) (n' f q mn.toNat s) []).1.af.length lz) (jT f (lj mn mx) (n' f q mn.toNat s) []).1 (jT f (lj mn mx) (n' f q mn.toNat s) []).2
def RM (f:dr->dr) (s:dr):dr×Int:=(ly (bH (f (bH s ⟨2,0,0,[]⟩).1) ⟨3,0,0,[]⟩).1 false (bH s ⟨2,0,0,[]⟩).2,(bH (f (bH s ⟨2,0,0,[]⟩).1) ⟨3,0,0,[]⟩).2)
mutual
def i_:ah->dr->dr
 | .mk op r mn mx lz cap _ ks,s=>if s.bU=true then s
  else if op=2 then(bH s ⟨1,0,0,r⟩).1
  else if op=3 then lB ks s
  else if op=4 then dZ (ll (fX ks s []).1.af.length) (fX ks s []).1 (fX ks s []).2
  else if op=5 then yR (λs=>Pk ks s) (CW ks) mn mx lz s
  else if op=6 then(bH (Pk ks (bH s ⟨4,2*cap,0,[]⟩).1) ⟨4,2*cap+1,0,[]⟩).1
  else if op=7 then(bH s ⟨5,0,0,[]⟩).1
  else if op=8 then(bH s ⟨6,0,0,[]⟩).1 else s
def lB:List ah->dr->dr
 | [],s=>s
 | t::l,s=>if s.bU=true then s else lB l (i_ t s)
def Pk:List ah->dr->dr
 | [],s=>s
 | t::_,s=>i_ t s
def fX:List ah->dr->List Int->dr×List Int
 | [],s,j=>(s,j)
 | t::l,s,j=>if s.bU=true then(s,j) else if l.isEmpty=true then(i_ t s,j) else fX l (RM (λs=>i_ t s) s).1 (j++[(RM (λs=>i_ t s) s).2])
end
def Jk (n:Nat) (y:dr):List (Nat×AO D.E):=[(0,.cells [.own n 4 (ag y.af),.bool y.bU] 228 false),(n,.arr 8 y.af 203 false)]
def V_ (v:AV D.E) (s:St D.E):C dr:=match v with
 | .ptr b _=>az (cR (s.h.get b)) λo=>match o with
  | .cells cs _ _=>match cs with
   | [c,b]=>az (aL D s 8 c) λc=>aP (zh b) λb _=>.ret ⟨c,b⟩
   | _=>.fail
  | _=>.fail
 | _=>.fail
def zQ:bh D:=⟨132,dr×aW,λa s=>match a with
 | [p,i]=>az (V_ p s) λy=>az (QcA i) λi=>.ret (y,i)
 | _=>.fail,λy=>y.1.af.length<=400,λy=>[.ptr 0 0,.agg (D.a_ 8 y.2)],λy=>Jk 1 y.1,λy=>Qvo (bH y.1 y.2).2,λy=>Jk 2 (bH y.1 y.2).1,2,3⟩
def Wa:bh D:=⟨230,dr×Int×Int×Bool,λa s=>match a with
 | [p,i,o,b]=>az (V_ p s) λy=>aP (cT i) λ_ i=>aP (cT o) λ_ o=>aP (zh b) λb _=>.ret (y,i,o,b)
 | _=>.fail,λy=>y.1.af.length<=1000/\0<=y.2.1/\y.2.1<y.1.af.length,λy=>[.ptr 0 0,Qvo y.2.1,Qvo y.2.2.1,.bool y.2.2.2],λy=>Jk 1 y.1,λ_=>.tuple [],λy=>Jk 1 ⟨fx y.2.2.1 y.2.2.2 y.1.af y.2.1,y.1.bU⟩,2,2⟩
def Wb (y:ah):Prop:=let b:=y.ae;let u:=ah.mk 0 [] 0 0 false 0 0 [];let q1:=gt u b 0;let d:=ah.mk q1.op q1.r q1.mn q1.mx q1.lz q1.cap q1.nk q1.ae;let g:=λp:Prop=>RA0 y (RAG b p);aj (aB y.op 1) (true=jS y/\True) (aj (aB y.op 3) ((∃z:Nat,0=(z:Int)/\g ((Iv (z<=b.length/\qI (List.drop z b)=qI b))))/\(∀x:Nat,let c:=b.length;let f:=aw (x:Int) (ag b);let a:=gt u b (x:Int).toNat;let e:=ah.mk a.op a.r a.mn a.mx a.lz a.cap a.nk a.ae;(Iv (x<=c/\qI (List.drop x b)=qI b))->aj f (aG 0 (x:Int)/\f/\Iv (F8 e/\dm e<dm y)/\RA0 a (RAG a.ae (aj (!(jS e)) (false=jS y/\True) (∃z:Nat,ay .i64 (x:Int) 1=(z:Int)/\g ((Iv ((z<=c/\qI (List.drop z b)=qI b)/\(c-z)<(c-x)))))))) (true=jS y/\True))) (aj (aB y.op 5) (aj (aB y.mx 0) (true=jS y/\True) (aj (aB y.mn y.mx) (Tt 1 (aw 0 (ag b)/\Iv (F8 d/\dm d<dm y)/\RA0 q1 (RAG q1.ae (jS d=jS y/\True)))) (false=jS y/\True))) (false=jS y/\True)))
def Ϡ:∀y,Wb y=Qsz y:=λy=>by kernel_rfl
def QcL (y:dr×aW):Prop:=let b:=ag y.1.af;let q1:=ag (bH y.1 y.2).1.af;let a:=bM y.1.af [y.2];aj (aG 400 b) (0=(bH y.1 y.2).2/\b=q1/\true=(bH y.1 y.2).1.bU/\y.1.af=(bH y.1 y.2).1.af/\True) (bJ (ag a) 48/\RAK b y.2.op y.2.x y.2.y y.2.bm (cx .i64 (ag a) 1=(bH y.1 y.2).2/\ag a=q1/\y.1.bU=(bH y.1 y.2).1.bU/\a=(bH y.1 y.2).1.af/\True))
def QcM (y:dr×Int×Int×Bool):Prop:=let a:=ag y.1.af;let q1:=y.2.1.toNat;let h:=ay .i64 y.2.1 1;let d:=gt (aW.mk 0 0 0 []) y.1.af q1;let c:=fx y.2.2.1 y.2.2.2 y.1.af y.2.1;let i:=cS y.1.af q1 (aW.mk d.op h d.y d.bm);let e:=gt (aW.mk 0 0 0 []) i q1;let f:=cS i q1 (aW.mk e.op e.x y.2.2.1 e.bm);let g:=gt (aW.mk 0 0 0 []) f q1;let j:=cS f q1 (aW.mk g.op y.2.2.1 g.y g.bm);let b:=gt (aW.mk 0 0 0 []) j q1;aG 0 y.2.1/\aw y.2.1 a/\aG 0 y.2.1/\aw y.2.1 a/\RAH a a (aj y.2.2.2 (aG 0 y.2.1/\aw y.2.1 a/\aG 0 y.2.1/\aw y.2.1 a/\aa [a,a] (a=ag c/\aa [y.1.bU] (cS j q1 (aW.mk b.op b.x h b.bm)=c/\True))) (a=ag c/\aa [y.1.bU] (f=c/\True)))
def F8.Vs {y:ah} (h:F8 y) {x:Nat} (a:x<y.ae.length):F8 (y.ae.getD x bF):=⟨(yP h.1 a).1,((iQ y).mp h.2).2.2.mem a⟩
def QfC (t:ah):CU t=if t.op=1 then true else if t.op=3 then qI t.ae else if t.op=5 then(if t.mx=0 then true else decide (t.mn=t.mx)&&CW t.ae) else false:=by cases t;rw[CU];rfl
theorem LJ {l:List ah} (h:0<l.length):CW l=CU (l.getD 0 bF):=by
 cases l with
 | nil=>cases h
 | cons t l=>rw[CW];rfl
theorem QkM (y:ah) (b:FD.pre y):Wb y:=by
 have b:F8 y:=b;have hk:=b.1.few;have i:∀t,jS t=CU t:=λt=>by grind [jS,aC]
 unfold Wb;have o:∀(l:List ah) n,gt (ah.mk 0 [] 0 0 false 0 0 []) l n=l.getD n bF:=λ_ _=>rfl
 simp only[bL,bC,au,o,bR,Zad,Zan,Zao,i];have q:=QfC y;refine⟨λd=>by grind,λd=>⟨λf=>⟨⟨0,rfl,Zaj _,rfl⟩,λx p=>⟨λe=>?_,λe=>?_⟩⟩,λf=>⟨λh=>⟨λm=>?_,λm=>⟨λm2=>?_,λm2=>?_⟩⟩,λh=>?_⟩⟩⟩
 ·rw[Zaa d,Zac f] at q;have c:x<y.ae.length:=ω;have k:y.ae.drop x=y.ae.getD x bF::y.ae.drop (x+1):=by simp_all
  have j:=p.2;rw[k,qI] at j;refine⟨ω,e,⟨b.Vs c,iP c⟩,λg=>?_,λg=>⟨x+1,bK ω,⟨c,?_⟩,ω⟩⟩
  ·grind
  ·grind
 ·grind [qI]
 ·grind
 ·have a:0<y.ae.length:=by
   have:=(((iQ y).mp b.2).1.rep h).1;grind
  rw[q,Zaa d,Zaa f,Zac h,Zaa m,LJ a];exact⟨ω,⟨b.Vs a,iP a⟩,by simp[m2]⟩
 ·grind
 ·grind
def QkN:Ok FD:=RC dm Ϡ trivial QkM
theorem LK:Ok zQ:=okZ (V:=QcL) [] f132 (λ_=>dY ()) trivial λy a=>by
 grind [QcL,bH]
def QkO:Ok Wa:=okZ (V:=QcM) [] f230 (λ_=>dY ()) trivial λy f=>by
 obtain⟨m,a,o,lz⟩:=y;obtain⟨h1,b,c⟩:m.af.length<=1000/\0<=a/\a<m.af.length:=f;have hi:a.toNat<m.af.length:=ω;unfold QcM;simp only[bC,fm,dA,au,ep,CK hi,tT];have e:ay .i64 a 1=a+1:=ba ω ω;have d:gt (aW.mk 0 0 0 []) m.af a.toNat=m.af.getD a.toNat in0:=rfl;refine⟨b,c,b,c,λh=>⟨b,c,b,c,?_⟩,λh=>?_⟩
 ·simp only[e,d,h,fx,Zbv];rfl
 ·simp only[e,d,h,fx,ZaE,Za0];rfl
structure Gw (s t:dr):Prop where
 len:s.af.length<=t.af.length
 max:s.af.length<=400->t.af.length<=400
 bU:s.bU=true->t.bU=true
variable {Z:dr->dr} {s Y:dr}
theorem Gw.refl (s:dr):Gw s s:=⟨Zah _,id,id⟩
def Gw.trans {u:dr} (h:Gw s Y) (k:Gw Y u):Gw s u:=⟨Zav h.len k.len,λe=>k.max (h.max e),λe=>k.bU (h.bU e)⟩
theorem Gw.low (h:Gw s Y) (e:Y.bU=false):s.bU=false:=by
 cases a:s.bU with
 | false=>rfl
 | true=>rw[h.bU a] at e;cases e
theorem eU (s:dr) (i:aW):Gw s (bH s i).1/\((bH s i).1.bU=false->s.af.length<400/\(bH s i).2=s.af.length/\(bH s i).1=⟨s.af++[i],false⟩):=by
 unfold bH;split
 ·exact⟨⟨Zah _,id,λ_=>rfl⟩,λh=>by cases h⟩
 ·refine⟨⟨by simp,λh=>by grind,id⟩,λh=>⟨ω,rfl,?_⟩⟩;grind
theorem CX (s:dr) (lz:Bool) (j:Int):Gw s (ly s lz j)/\(ly s lz j).af.length=s.af.length/\(ly s lz j).bU=s.bU:=by
 unfold ly;split
 ·grind [Gw.refl]
 ·rename_i h
  have h:s.bU=false:=by grind
  exact⟨⟨by grind [ep],by grind [ep],λe=>by grind⟩,ep _ _ _ _,h.symm⟩
theorem fP (g:List aW->Int->List aW) (b:∀l j,(g l j).length=l.length) (s:dr) (a:List Int):Gw s (dZ g s a)/\(dZ g s a).af.length=s.af.length/\(dZ g s a).bU=s.bU:=by
 have:∀(a:List Int) (l:List aW),(a.foldl g l).length=l.length:=λa=>by
  induction a with
  | nil=>intro l;rfl
  | cons j a c=>intro l;rw[Zb2,c,b]
 unfold dZ;split
 ·grind [Gw.refl]
 ·rename_i h
  have h:s.bU=false:=by grind
  exact⟨⟨by grind,by grind,λe=>by grind⟩,this _ _,h.symm⟩
theorem wu (q:Bool) (a:∀s,Gw s (Z s)):∀(n:Nat) (s:dr),Gw s (n' Z q n s)
 | 0,s=>Gw.refl s
 | n+1,s=>by
  rw[n'];split
  ·exact Gw.refl s
  ·exact(a s).trans (wu q a n _)
def InJ (s:dr) (j:List Int):Prop:=s.bU=false->∀v∈j,0<=v/\v<s.af.length
theorem InJ.more {j:List Int} (h:InJ s j) (g:Gw s Y) {v:Int} (b:Y.bU=false->0<=v/\v<Y.af.length):InJ Y (j++[v]):=λe x a=>by
 rcases List.mem_append.mp a with h1 | h1
 ·have:=h (g.low e) x h1;have:=g.len;omega
 ·grind
theorem tV (a:∀s,Gw s (Z s)):∀(n:Nat) (s:dr) (j:List Int),InJ s j->Gw s (jT Z n s j).1/\InJ (jT Z n s j).1 (jT Z n s j).2/\(jT Z n s j).2.length<=j.length+n
 | 0,s,j,h=>⟨Gw.refl s,h,Zah _⟩
 | n+1,s,j,h=>by
  rw[jT];split
  ·grind [Gw.refl]
  ·obtain⟨p1,p2⟩:=eU s ⟨2,0,0,[]⟩;have g1:=p1.trans (a (bH s ⟨2,0,0,[]⟩).1);obtain⟨b,c,i⟩:=tV a n (Z (bH s ⟨2,0,0,[]⟩).1) (j++[(bH s ⟨2,0,0,[]⟩).2]) (h.more g1 λe=>by
    obtain⟨q1,d,k⟩:=p2 ((a _).low e);have:=(a (bH s ⟨2,0,0,[]⟩).1).len;have g:(bH s ⟨2,0,0,[]⟩).1.af.length=s.af.length+1:=by grind
    rw[d];omega)
   exact⟨g1.trans b,c,by grind⟩
def LL (a:∀s,Gw s (Z s)) (lz:Bool) (s:dr):Gw s (Bp Z lz s):=by
 unfold Bp;exact(((eU s _).1.trans (a _)).trans (eU _ _).1).trans (CX _ _ _).1
def ϣ (a:∀s,Gw s (Z s)) (q:Bool) (mn mx:Int) (lz:Bool) (s:dr):Gw s (yR Z q mn mx lz s):=by
 unfold yR;have h1:=wu q a mn.toNat s;split
 ·exact h1.trans (LL a lz _)
 ·have b:=tV a (lj mn mx) (n' Z q mn.toNat s) [] (λ_ v c=>nomatch c);exact(h1.trans b.1).trans (fP _ (λl j=>ep _ _ _ _) _ _).1
theorem LM (a:∀s,Gw s (Z s)) (s:dr):Gw s (RM Z s).1/\((RM Z s).1.bU=false->0<=(RM Z s).2/\(RM Z s).2<(RM Z s).1.af.length):=by
 unfold RM;obtain⟨p1,p2⟩:=eU s ⟨2,0,0,[]⟩;obtain⟨b,c⟩:=eU (Z (bH s ⟨2,0,0,[]⟩).1) ⟨3,0,0,[]⟩;obtain⟨k1,k2,k3⟩:=CX (bH (Z (bH s ⟨2,0,0,[]⟩).1) ⟨3,0,0,[]⟩).1 false (bH s ⟨2,0,0,[]⟩).2;refine⟨((p1.trans (a _)).trans b).trans k1,λe=>?_⟩;grind
def sU (t:ah) (s:dr):i_ t s=if s.bU=true then s
  else if t.op=2 then(bH s ⟨1,0,0,t.r⟩).1
  else if t.op=3 then lB t.ae s
  else if t.op=4 then dZ (ll (fX t.ae s []).1.af.length) (fX t.ae s []).1 (fX t.ae s []).2
  else if t.op=5 then yR (λs=>Pk t.ae s) (CW t.ae) t.mn t.mx t.lz s
  else if t.op=6 then(bH (Pk t.ae (bH s ⟨4,2*t.cap,0,[]⟩).1) ⟨4,2*t.cap+1,0,[]⟩).1
  else if t.op=7 then(bH s ⟨5,0,0,[]⟩).1
  else if t.op=8 then(bH s ⟨6,0,0,[]⟩).1 else s:=by cases t;rw[i_];rfl
mutual
theorem l5:∀(t:ah) (s:dr),Gw s (i_ t s)
 | .mk op r mn mx lz cap nk ks,s=>by
  have hL:=CY ks
  have hH:=QkP ks
  have hA:=yS ks s [] (λ_ v hv=>nomatch hv)
  rw[i_]
  split
  ·exact Gw.refl s
  ·split
   ·exact(eU _ _).1
   ·split
    ·exact hL s
    ·split
     ·exact hA.1.trans (fP _ (λl j=>iS _ _ _) _ _).1
     ·split
      ·exact ϣ hH _ _ _ _ s
      ·split
       ·exact((eU _ _).1.trans (hH _)).trans (eU _ _).1
       ·split
        ·exact(eU _ _).1
        ·split
         ·exact(eU _ _).1
         ·exact Gw.refl s
theorem CY:∀(l:List ah) (s:dr),Gw s (lB l s)
 | [],s=>by rw[lB];exact Gw.refl s
 | t::l,s=>by
  rw[lB]
  split
  ·exact Gw.refl s
  ·exact(l5 t s).trans (CY l _)
theorem QkP:∀(l:List ah) (s:dr),Gw s (Pk l s)
 | [],s=>by rw[Pk];exact Gw.refl s
 | t::_,s=>by rw[Pk];exact l5 t s
theorem yS:∀(l:List ah) (s:dr) (j:List Int),InJ s j->Gw s (fX l s j).1/\InJ (fX l s j).1 (fX l s j).2/\(fX l s j).2.length<=j.length+l.length
 | [],s,j,h=>by rw[fX];exact⟨Gw.refl s,h,Zah _⟩
 | t::l,s,j,h=>by
  have hf:=l5 t
  rw[fX]
  split
  ·exact⟨Gw.refl s,h,by simp only;omega⟩
  ·split
   ·exact⟨hf s,λe v hv=>by have:=h ((hf s).low e) v hv;have:=(hf s).len;simp only;omega,by simp only;omega⟩
   ·obtain⟨u1,u2⟩:=LM hf s
    obtain⟨a1,a2,a3⟩:=yS l (RM (λs=>i_ t s) s).1 (j++[(RM (λs=>i_ t s) s).2]) (h.more u1 u2)
    exact⟨u1.trans a1,a2,by simp only[Zab,Zae,Zak] at a3 ⊢;omega⟩
end
def QfE (f:FuncId) (Y:Type) (c:Y->dr) (oM:List (AV D.E)->St D.E->C Y) (pre:Y->Prop) (args:Y->List (AV D.E)) (a:Y->dr):bh D:=⟨f,Y,oM,pre,λy=>.ptr 0 0::args y,λy=>Jk 1 (c y),λ_=>.tuple [],λy=>Jk 2 (a y),2,3⟩
def eC (y:dr×ah):dr:=lk (i_ y.2 y.1)
def CZ (y:dr×ah):Prop:=y.1.af.length<=400/\F8 y.2
def Jl:bh D:=QfE 133 (dr×ah) (·.1) (λa s=>match a with
 | [p,t]=>az (V_ p s) λc=>az (IA t) λt=>.ret (c,t)
 | _=>.fail) CZ (λy=>[.agg (D.a_ 15 y.2)]) eC
def kk (y:dr×List ah):dr×List Int:=lk (fX y.2 y.1 [])
def n_ (y:dr×List ah) (j:Nat):dr:=lk (dZ (ll (kk y).1.af.length) (kk y).1 ((kk y).2.take j))
def yT (y:dr×List ah):dr:=lk (n_ y (kk y).2.length)
def QkQ (y:dr×List ah):Prop:=y.1.af.length<=400/\y.1.bU=false/\y.2.length<=1000000/\∀t∈y.2,F8 t
def OE:bh D:=QfE 190 (dr×List ah) (·.1) (λa s=>match a with
 | [p,l]=>az (V_ p s) λc=>az (aL D s 15 l) λl=>.ret (c,(l:List ah))
 | _=>.fail) QkQ (λy=>[.list 15 y.2]) yT
structure LN where
 c:dr
 n:Nd
 k:ah
def km (y:LN):dr:=lk (n' (i_ y.k) (jS y.k) y.n.mn.toNat y.c)
def rE (y:LN):Nat:=lk (lj y.n.mn y.n.mx)
def iD (y:LN):dr×List Int:=lk (jT (i_ y.k) (rE y) (km y) [])
def oL (y:LN) (j:Nat):dr:=lk (dZ (fx (iD y).1.af.length y.n.lz) (iD y).1 ((iD y).2.take j))
def pM (y:LN):dr:=lk (yR (i_ y.k) (jS y.k) y.n.mn y.n.mx y.n.lz y.c)
def QkR (y:LN):Prop:=y.c.af.length<=400/\y.c.bU=false/\F8 y.k/\0<=y.n.mn/\y.n.mn<=30/\(y.n.mx= -1\/(y.n.mn<=y.n.mx/\y.n.mx<=30))
def OF:bh D:=QfE 191 LN (·.c) (λa s=>match a with
 | [p,n,t]=>az (V_ p s) λc=>az (Qe0 n) λn=>az (IA t) λt=>.ret ⟨c,n,t⟩
 | _=>.fail) QkR (λy=>[.agg (D.a_ 7 y.n),.agg (D.a_ 15 y.k)]) pM
def fnO (n:Nat):s7:=[Jl.under (λy=>2*dm y.2) n,OE.under (λy=>2*uM y.2+1) n,OF.under (λy=>2*dm y.k+1) n]
def QkS (y:Jl.Y):cH D:=⟨[],[],[(1978,⟨dr×Nat,[0],λx=>[(3,.ptr 2 0),(4,Qvo x.2)],[],λx=>Jk 3 x.1++[vE 2 y.2],4,λx=>x.2<=y.2.ae.length/\Gw y.1 x.1/\lB (y.2.ae.drop x.2) x.1=lB y.2.ae y.1,λx=>y.2.ae.length-x.2⟩)],[],1,[]⟩
def QsD (y:Jl.Y):Prop:=vc (fnO (2*dm y.2)++[zQ]) f133 Jl QkS y
structure Wc where
 s:dr
 j:List Int
 i:Nat
variable {s:dr} {l:List ah} {a:List Int} {Z:dr->dr}
def Wd (y:dr×List ah) (x:Wc):Prop:=x.i<=y.2.length/\Gw y.1 x.s/\x.j.length<=x.i/\fX (y.2.drop x.i) x.s x.j=fX y.2 y.1 []
def QkT (y:OE.Y):cH D:=⟨[],[],[
 (26,⟨Wc,[0,1],λx=>[(4,.grow 5 x.j 3),(5,Qvo x.i)],[],λx=>Jk 2 x.s++[vw 3],4,Wd y,λx=>y.2.length-x.i⟩),
 (30,⟨Nat,[0],λj=>[(4,.grow 5 (kk y).2 3),(7,Qvo j)],[],λj=>Jk 2 (n_ y j)++[vw 3],4,λj=>j<=(kk y).2.length,λj=>(kk y).2.length-j⟩)],
 [(3,⟨Unit,[0],λ_=>[(4,.grow 5 (kk y).2 3)],[],λ_=>Jk 2 (kk y).1++[vw 3],4,λ_=>True,λ_=>0⟩)],1,[]⟩
def QsE (y:OE.Y):Prop:=vc (fnO (2*uM y.2+1)++[zQ]) f190 OE QkT y
def crN (y:LN):Nat×AO D.E:=(2,.cells (D.a_ 7 y.n) 206 false)
def crB (y:LN):List (Nat×AO D.E):=[crN y,vE 3 y.k]
def crI (y:LN) (x:dr×Nat):Prop:=x.2<=y.n.mn.toNat/\Gw y.c x.1/\n' (i_ y.k) (jS y.k) (y.n.mn.toNat-x.2) x.1=km y
def crJ (y:LN) (x:Wc):Prop:=x.i<=rE y/\Gw (km y) x.s/\x.j.length<=x.i/\jT (i_ y.k) (rE y-x.i) x.s x.j=iD y
def QkV (y:OF.Y):cH D:=⟨[],[],[
  (58,⟨dr×Nat,[0,6],λx=>[(4,.ptr 2 0),(5,.ptr 3 0),(7,Qvo x.2)],[],λx=>Jk 4 x.1++crB y,5,crI y,λx=>y.n.mn.toNat-x.2⟩),
  (506,⟨Wc,[0],λx=>[(4,.ptr 2 0),(5,.ptr 3 0),(9,.grow 5 x.j 5),(10,Qvo (y.n.mn+(x.i:Nat)))],[],λx=>Jk 4 x.s++crB y++[vw 5],6,crJ y,λx=>rE y-x.i⟩),
  (510,⟨Nat,[0],λj=>[(4,.ptr 2 0),(9,.grow 5 (iD y).2 5),(11,Qvo j)],[],λj=>Jk 4 (oL y j)++[crN y,vw 5],6,λj=>j<=(iD y).2.length,λj=>(iD y).2.length-j⟩)],
  [(7,⟨Unit,[0],λ_=>[(4,.ptr 2 0),(5,.ptr 3 0)],[],λ_=>Jk 4 (km y)++crB y,5,λ_=>True,λ_=>0⟩),
   (63,⟨Unit,[0],λ_=>[(4,.ptr 2 0),(9,.grow 5 (iD y).2 5)],[],λ_=>Jk 4 (iD y).1++[crN y,vw 5],6,λ_=>True,λ_=>0⟩)],1,[]⟩
def QsH (y:OF.Y):Prop:=vc (fnO (2*dm y.k+1)++[zQ,Wa,FD]) f191 OF QkV y
abbrev RA9 (v:dr) (p:Prop):Prop:=aa [v.bU] (aa [v.af] p)
def We (y:dr×ah):Prop:=let k:=ag (eC y).af;let q1:=ag y.1.af;let u:=(bH y.1 (aW.mk 6 0 0 [])).1;let v:=(bH y.1 (aW.mk 5 0 0 [])).1;let g:=y.2.op;let c:=y.2.ae;let w:=gG .i64 2 y.2.cap;let B:=ay .i64 w 1;let A:=(bH y.1 (aW.mk 1 0 0 y.2.r)).1;let s:=(bH y.1 (aW.mk 4 w 0 [])).1;let F:=ah.mk 0 [] 0 0 false 0 0 [];let a:=gt F c 0;let d:=ah.mk a.op a.r a.mn a.mx a.lz a.cap a.nk a.ae;let e:=eC (s,d);let l:=(bH e (aW.mk 4 B 0 [])).1;let h:=LN.mk y.1 (Nd.mk g y.2.r y.2.mn y.2.mx y.2.lz y.2.cap y.2.nk) d;let t:=λp:Prop=>RAG g (RA7 y.2 (RAH y.2.nk c p));let m:Prop:=(q1=k/\y.1.bU=(eC y).bU/\y.1.af=(eC y).af/\True);let G:=λz:dr×Nat=>Gw y.1 z.1/\lB (List.drop z.2 c) z.1=lB c y.1;aj y.1.bU (m) (aj (aB g 2) (Iv (y.1.af.length<=400)/\aa ([1,0,0]:List Int) (RAH y.2.r q1 (RA9 y.1 (ag A.af=k/\A.bU=(eC y).bU/\A.af=(eC y).af/\True)))) (aj (aB g 3) ((∃z:dr×Nat,0=(z.2:Int)/\t (q1=ag z.1.af/\y.1.bU=z.1.bU/\y.1.af=z.1.af/\(Iv (z.2<=c.length/\G z))))/\(∀x:dr×Nat,let n:=ag x.1.af;let i:=(x.2:Int);let j:=c.length;let o:=aw i (ag c);let b:=gt F c i.toNat;let f:=ah.mk b.op b.r b.mn b.mx b.lz b.cap b.nk b.ae;let q:Prop:=(n=k/\x.1.bU=(eC y).bU/\x.1.af=(eC y).af/\True);(Iv (x.2<=j/\Gw y.1 x.1/\lB (List.drop x.2 c) x.1=lB c y.1))->aj o (aj (!x.1.bU) (aG 0 i=true/\o=true/\Iv (CZ (x.1,f)/\(2*dm f)<(2*dm y.2))/\RA0 b (RAH b.ae n (RA9 x.1 (∃z:dr×Nat,ay .i64 i 1=(z.2:Int)/\t (ag (eC (x.1,f)).af=ag z.1.af/\(eC (x.1,f)).bU=z.1.bU/\(eC (x.1,f)).af=z.1.af/\(Iv ((z.2<=j/\G z)/\(j-z.2)<(j-x.2)))))))) (q)) (q))) (aj (aB g 4) (Iv (QkQ (y.1,c)/\((2*uM c)+1)<(2*dm y.2))/\RAH c q1 (RA9 y.1 (ag (yT (y.1,c)).af=k/\(yT (y.1,c)).bU=(eC y).bU/\(yT (y.1,c)).af=(eC y).af/\True))) (aj (aB g 5) (Tt 1 (aw 0 (ag c)=true/\Iv (QkR h/\((2*dm d)+1)<(2*dm y.2))/\RAG g (RA7 y.2 (RAG y.2.nk (RA0 a (RAH a.ae q1 (RA9 y.1 (RAG g (RA7 y.2 (RAH y.2.nk c (RA0 a (RAG a.ae (ag (pM h).af=k/\(pM h).bU=(eC y).bU/\(pM h).af=(eC y).af/\True))))))))))))) (aj (aB g 6) (Iv (y.1.af.length<=400)/\aa ([4,w,0]:List Int) (RAB (RAG q1 (RA9 y.1 (Tt 1 (aw 0 (ag c)=true/\Iv (CZ (s,d)/\(2*dm d)<(2*dm y.2))/\aa [a.op] (aa [a.r] (aa [a.mn,a.mx] (aa [a.lz] (aa [a.cap,a.nk] (aa [a.ae] (aa [ag s.af] (aa [s.bU] (aa [s.af] (Iv (e.af.length<=400)/\aa ([4,B,0]:List Int) (aa ([[]]:List (List (Int×Int))) (aa [ag e.af] (aa [e.bU] (aa [e.af] (ag l.af=k/\l.bU=(eC y).bU/\l.af=(eC y).af/\True)))))))))))))))))))) (aj (aB g 7) (Iv (y.1.af.length<=400)/\aa ([5,0,0]:List Int) (RAB (RAG q1 (RA9 y.1 (ag v.af=k/\v.bU=(eC y).bU/\v.af=(eC y).af/\True))))) (aj (aB g 8) (Iv (y.1.af.length<=400)/\aa ([6,0,0]:List Int) (RAB (RAG q1 (RA9 y.1 (ag u.af=k/\u.bU=(eC y).bU/\u.af=(eC y).af/\True))))) (m))))))))
def Ϥ:∀y,We y=QsD y:=λy=>by kernel_rfl
def Wf (y:dr×(List ah)):Prop:=let D:=ag (yT y).af;let q1:=(kk y).2;let A:=ag (kk y).1.af;((∃z:Wc,aa [y.2] ([]=z.j/\0=((z.i:Nat):Int)/\ag y.1.af=ag z.s.af/\y.1.bU=z.s.bU/\y.1.af=z.s.af/\(Iv (Wd y z))))/\(∀x:Wc,let B:=ag x.s.af;let p:=((x.i:Nat):Int);let C:=aw p (ag y.2);let E:=aB p (cx .i64 (ag y.2) 1);let k:=bH x.s (aW.mk 2 0 0 []);let w:=k.2.toNat;let a:=gt (ah.mk 0 [] 0 0 false 0 0 []) y.2 p.toNat;let c:=ah.mk a.op a.r a.mn a.mx a.lz a.cap a.nk a.ae;let g:=eC (k.1,c);let b:=bH g (aW.mk 3 0 0 []);let d:=ag b.1.af;let m:=gt (aW.mk 0 0 0 []) b.1.af w;let q:=cS b.1.af w (aW.mk m.op (ay .i64 k.2 1) m.y m.bm);let n:=gt (aW.mk 0 0 0 []) q w;let t:Prop:=(∃z:Unit,x.j=q1/\B=A/\x.s.bU=(kk y).1.bU/\x.s.af=(kk y).1.af/\(Iv True));(Iv (Wd y x))->aj C (aj (!x.s.bU) (aj E (aG 0 p/\C/\Iv (CZ (x.s,c)/\(2*dm c)<((2*uM y.2)+1))/\aa [a.op] (aa [a.r] (aa [a.mn,a.mx] (aa [a.lz] (aa [a.cap,a.nk] (aa [a.ae] (aa [B] (aa [x.s.bU] (aa [x.s.af] (∃z:Unit,x.j=q1/\ag (eC (x.s,c)).af=A/\(eC (x.s,c)).bU=(kk y).1.bU/\(eC (x.s,c)).af=(kk y).1.af/\(Iv True))))))))))) (Iv (x.s.af.length<=400)/\aa ([2,0,0]:List Int) (aa ([[]]:List (List (Int×Int))) (aa [B] (aa [x.s.bU] (aa [x.s.af] (aG 0 p/\C/\Iv (CZ (k.1,c)/\(2*dm c)<((2*uM y.2)+1))/\aa [a.op] (aa [a.r] (aa [a.mn,a.mx] (aa [a.lz] (aa [a.cap,a.nk] (aa [a.ae] (aa [ag k.1.af] (aa [k.1.bU] (aa [k.1.af] (Iv (g.af.length<=400)/\aa ([3,0,0]:List Int) (aa ([[]]:List (List (Int×Int))) (aa [ag g.af] (aa [g.bU] (aa [g.af] (bJ (ag (bM x.j [b.2])) 8/\aj (!b.1.bU) (aG 0 k.2/\aw k.2 d/\aG 0 k.2/\aw k.2 d/\aa [d,d,d] (∃z:Wc,aa [y.2] (bM x.j [b.2]=z.j/\ay .i64 p 1=((z.i:Nat):Int)/\d=ag z.s.af/\b.1.bU=z.s.bU/\cS q w (aW.mk n.op n.x d n.bm)=z.s.af/\(Iv (Wd y z/\(y.2.length-z.i)<(y.2.length-x.i)))))) (∃z:Wc,aa [y.2] (bM x.j [b.2]=z.j/\ay .i64 p 1=((z.i:Nat):Int)/\d=ag z.s.af/\b.1.bU=z.s.bU/\b.1.af=z.s.af/\(Iv (Wd y z/\(y.2.length-z.i)<(y.2.length-x.i)))))))))))))))))))))))))) (t)) (t)))/\(∀x:Unit,(Iv True)->(∃z:Nat,aa [q1] (0=(z:Int)/\A=ag (n_ y z).af/\(kk y).1.bU=(n_ y z).bU/\(kk y).1.af=(n_ y z).af/\(Iv (z<=q1.length))))/\(∀f:Nat,let e:=ag (n_ y f).af;let l:=q1.length;let u:=aw (f:Int) (ag q1);let h:=gt 0 q1 (f:Int).toNat;let o:=gt (aW.mk 0 0 0 []) (n_ y f).af h.toNat;let v:Prop:=(e=D/\(n_ y f).bU=(yT y).bU/\(n_ y f).af=(yT y).af/\True);(Iv (f<=l))->aj u (aj (!(n_ y f).bU) (aG 0 (f:Int)/\u/\aG 0 h/\aw h e/\aa [e,h,e] (∃z:Nat,aa [q1] (ay .i64 (f:Int) 1=(z:Int)/\e=ag (n_ y z).af/\(n_ y f).bU=(n_ y z).bU/\cS (n_ y f).af h.toNat (aW.mk o.op e o.y o.bm)=(n_ y z).af/\(Iv (z<=l/\(l-z)<(l-f)))))) (v)) (v)))
def ϥ:∀y,Wf y=QsE y:=λy=>by kernel_rfl
def Wg (y:LN):Prop:=let I:=ag (km y).af;let q1:=ag (pM y).af;let t:=(iD y).2;let L:=ag (iD y).1.af;let h:=bH (km y) (aW.mk 2 0 0 []);let b:=ah.mk y.k.op y.k.r y.k.mn y.k.mx y.k.lz y.k.cap y.k.nk y.k.ae;let G:=eC (h.1,b);let m:=(bH G (aW.mk 3 h.2 0 [])).1;let H:=ag m.af;let M:=fx H y.n.lz m.af h.2;let u:=λp:Prop=>RA6 y.n p;let l:=λp:Prop=>RA0 y.k (RAG y.k.ae (RA6 y.n p));Iv (F8 b)/\RA0 y.k (RAG y.k.ae (((∃z:dr×Nat,aa [jS b] (0=(z.2:Int)/\l (ag y.c.af=ag z.1.af/\y.c.bU=z.1.bU/\y.c.af=z.1.af/\(Iv (crI y z)))))/\(∀x:dr×Nat,let v:=ag x.1.af;let J:=aw (x.2:Int) y.n.mn;let q:Prop:=(∃z:Unit,l (v=I/\x.1.bU=(km y).bU/\x.1.af=(km y).af/\(Iv True)));(Iv (crI y x))->aj J (aj (!x.1.bU) (aj (!(jS b)) (Iv (CZ (x.1,b)/\(2*dm b)<((2*dm y.k)+1))/\aa [y.k.op] (aa [y.k.r] (aa [y.k.mn,y.k.mx] (aa [y.k.lz] (aa [y.k.cap,y.k.nk] (aa [y.k.ae] (aa [v] (aa [x.1.bU] (aa [x.1.af] (∃z:dr×Nat,aa [jS b] (ay .i64 (x.2:Int) 1=(z.2:Int)/\l (ag (eC (x.1,b)).af=ag z.1.af/\(eC (x.1,b)).bU=z.1.bU/\(eC (x.1,b)).af=z.1.af/\(Iv (crI y z/\(y.n.mn.toNat-z.2)<(y.n.mn.toNat-x.2))))))))))))))) (q)) (q)) (q)))/\(∀x:Unit,(Iv True)->aj (aB y.n.mx (-1)) (Iv ((km y).af.length<=400)/\aa ([2,0,0]:List Int) (aa ([[]]:List (List (Int×Int))) (aa [I] (aa [(km y).bU] (aa [(km y).af] (Iv (CZ (h.1,b)/\(2*dm b)<((2*dm y.k)+1))/\aa [y.k.op] (aa [y.k.r] (aa [y.k.mn,y.k.mx] (aa [y.k.lz] (aa [y.k.cap,y.k.nk] (aa [y.k.ae] (aa [ag h.1.af] (aa [h.1.bU] (aa [h.1.af] (Iv (G.af.length<=400)/\aa ([3,h.2,0]:List Int) (aa ([[]]:List (List (Int×Int))) (aa [ag G.af] (aa [G.bU] (aa [G.af] (aj (!m.bU) (Iv (m.af.length<=1000/\0<=h.2/\h.2<(m.af.length:Int))/\aa [h.2,H] (aa [y.n.lz] (aa [H] (aa [m.bU] (aa [m.af] (aa [H] (aa [y.n.lz] (ag M=q1/\m.bU=(pM y).bU/\M=(pM y).af/\True)))))))) (H=q1/\m.bU=(pM y).bU/\m.af=(pM y).af/\True))))))))))))))))))))) (((∃z:Wc,[]=z.j/\y.n.mn=(y.n.mn+((z.i:Nat):Int))/\l (I=ag z.s.af/\(km y).bU=z.s.bU/\(km y).af=z.s.af/\(Iv (crJ y z))))/\(∀d:Wc,let w:=ag d.s.af;let K:=aw (y.n.mn+((d.i:Nat):Int)) y.n.mx;let a:=bH d.s (aW.mk 2 0 0 []);let A:=bM d.j [a.2];let B:Prop:=(∃z:Unit,d.j=t/\u (w=L/\d.s.bU=(iD y).1.bU/\d.s.af=(iD y).1.af/\(Iv True)));(Iv (crJ y d))->aj K (aj (!d.s.bU) (Iv (d.s.af.length<=400)/\aa ([2,0,0]:List Int) (aa ([[]]:List (List (Int×Int))) (aa [w] (aa [d.s.bU] (aa [d.s.af] (bJ (ag A) 8/\Iv (CZ (a.1,b)/\(2*dm b)<((2*dm y.k)+1))/\aa [y.k.op] (aa [y.k.r] (aa [y.k.mn,y.k.mx] (aa [y.k.lz] (aa [y.k.cap,y.k.nk] (aa [y.k.ae] (aa [ag a.1.af] (aa [a.1.bU] (aa [a.1.af] (∃z:Wc,A=z.j/\ay .i64 (y.n.mn+((d.i:Nat):Int)) 1=(y.n.mn+((z.i:Nat):Int))/\l (ag (eC (a.1,b)).af=ag z.s.af/\(eC (a.1,b)).bU=z.s.bU/\(eC (a.1,b)).af=z.s.af/\(Iv (crJ y z/\(rE y-z.i)<(rE y-d.i))))))))))))))))))) (B)) (B)))/\(∀d:Unit,(Iv True)->(∃z:Nat,aa [t] (0=(z:Int)/\u (L=ag (oL y z).af/\(iD y).1.bU=(oL y z).bU/\(iD y).1.af=(oL y z).af/\(Iv (z<=t.length)))))/\(∀e:Nat,let f:=ag (oL y e).af;let C:=(oL y e).af.length;let o:=t.length;let D:=aw (e:Int) (ag t);let g:=gt 0 t (e:Int).toNat;let E:=fx f y.n.lz (oL y e).af g;let F:Prop:=(f=q1/\(oL y e).bU=(pM y).bU/\(oL y e).af=(pM y).af/\True);(Iv (e<=o))->aj D (aj (!(oL y e).bU) (aG 0 (e:Int)/\D/\Iv (C<=1000/\0<=g/\g<(C:Int))/\aa [g,f] (aa [y.n.lz] (aa [f] (aa [(oL y e).bU] (aa [(oL y e).af] (aa [g,f] (aa [y.n.lz] (∃z:Nat,aa [t] (ay .i64 (e:Int) 1=(z:Int)/\u (ag E=ag (oL y z).af/\(oL y e).bU=(oL y z).bU/\E=(oL y z).af/\(Iv (z<=o/\(o-z)<(o-e))))))))))))) (F)) (F)))))))
def Ϧ:∀y,Wg y=QsH y:=λy=>by kernel_rfl
theorem ϧ (h:s.bU):lB l s=s:=by
 cases l with
 | nil=>rw[lB]
 | cons t l=>rw[lB,Zac h]
theorem co3 {b:dr} (h:s=b):(s.af.length:Int)=(b.af.length:Int)/\s.bU=b.bU/\s.af=b.af:=by grind
theorem LO (h:0<l.length) (s:dr):Pk l s=i_ (l.getD 0 bF) s:=by
 cases l with
 | nil=>cases h
 | cons t l=>rw[Pk];rfl
theorem QsI (y:dr×ah) (I:Jl.pre y):We y:=by
 have⟨s,t⟩:=y;obtain⟨h1,c⟩:s.af.length<=400/\F8 t:=I;have hk:=c.1.few;have wf:=(iQ t).mp c.2;have C:∀s t,eC (s,t)=i_ t s:=λs t=>by grind [eC,aC]
 have A:yT (s,t.ae)=dZ (ll (fX t.ae s []).1.af.length) (fX t.ae s []).1 (fX t.ae s []).2:=by
  grind [yT,n_,aC,kk]
 have B:∀n k,pM ⟨s,n,k⟩=yR (i_ k) (jS k) n.mn n.mx n.lz s:=λn k=>by grind [pM,aC]
 have E:=sU t s;unfold We;have G:∀(l:List ah) n,gt (ah.mk 0 [] 0 0 false 0 0 []) l n=l.getD n bF:=λ_ _=>rfl
 simp only[bL,bC,au,G,bR,Zad,C,Zan,Zao];have Vs:∀x,x<t.ae.length->2*dm (t.ae.getD x bF)<2*dm t:=λx h=>by have:=iP h;omega
 refine⟨λb=>by grind,λb=>?_⟩;rw[Zaa (by grind)] at E;refine⟨λo=>⟨h1,by grind⟩,λo=>?_⟩;rw[Zaa o] at E;refine⟨λr=>?_,λr=>?_⟩
 ·refine⟨⟨(s,0),rfl,rfl,rfl,rfl,Zaj _,Gw.refl s,rfl⟩,λx h=>?_⟩;have⟨u,i⟩:=x;have⟨i1,i2,i3⟩:=h;have bU:u.bU->(u.af.length:Int)=((i_ t s).af.length:Int)/\u.bU=(i_ t s).bU/\u.af=(i_ t s).af:=λJ=>by
   grind [ϧ]
  refine⟨λe=>⟨λv=>?_,λv=>bU v⟩,λe=>?_⟩
  ·have f:i<t.ae.length:=ω;have D:t.ae.drop i=t.ae.getD i bF::t.ae.drop (i+1):=by simp_all
   rw[D,lB,Zaa (by grind)] at i3;exact⟨ω,e,⟨⟨i2.max h1,c.Vs f⟩,Vs i f⟩,(i_ (t.ae.getD i bF) u,i+1),bK ω,rfl,rfl,rfl,⟨f,i2.trans (l5 _ _),i3⟩,show t.ae.length-(i+1)<t.ae.length-i by omega⟩
  ·grind [lB]
 ·rw[Zaa r] at E;refine⟨λj=>?_,λj=>?_⟩
  ·rw[Zac j] at E;rw[A,<-E];refine⟨⟨⟨h1,b,hk,λk g=>?_⟩,by grind [yz]⟩,rfl,rfl,rfl⟩;obtain⟨i,hi,rfl⟩:=Za3 g;have:=c.Vs hi;grind
  ·rw[Zaa j] at E;refine⟨λd=>?_,λd=>?_⟩
   ·rw[Zac d] at E;have⟨w,p,q,w4⟩:=wf.1.rep d;have a:0<t.ae.length:=by grind
    have H:jS (t.ae.getD 0 bF)=CW t.ae:=by grind [jS,aC,LJ]
    have F:(λs=>Pk t.ae s)=i_ (t.ae.getD 0 bF):=funext λs=>LO a s
    rw[F] at E;rw[B,H,<-E];exact⟨ω,⟨⟨h1,b,c.Vs a,p,q,w4⟩,by grind⟩,rfl,rfl,rfl⟩
   ·rw[Zaa d] at E;refine⟨λm=>?_,λm=>?_⟩
    ·rw[Zac m] at E;have⟨w,p,q⟩:=wf.1.vg m;simp only at w p q;have a:0<t.ae.length:=ω;rw[LO a] at E;have e8:gG .i64 2 t.cap=2*t.cap:=xK ω ω;have z:ay .i64 (2*t.cap) 1=2*t.cap+1:=ba ω ω;rw[e8,z,<-E];have p1:=(eU s ⟨4,2*t.cap,0,[]⟩).1;exact⟨h1,ω,⟨⟨p1.max h1,c.Vs a⟩,Vs 0 a⟩,(l5 _ _).max (p1.max h1),rfl,rfl,rfl⟩
    ·grind
theorem yU {g:List aW->Int->List aW} {k:Nat} (hk:k<a.length) (b:(dZ g s (a.take k)).bU=false) (c:∀l j,(g l j).length=l.length):g (dZ g s (a.take k)).af (a.getD k 0)=(dZ g s (a.take (k+1))).af/\s.bU=false/\(dZ g s (a.take (k+1))).bU=false:=by
 grind [dZ,cq]
theorem QsJ (y:dr×List ah) (I:OE.pre y):Wf y:=by
 have⟨s,l⟩:=y;obtain⟨h1,L,M,D⟩:s.af.length<=400/\s.bU=false/\l.length<=1000000/\∀t∈l,F8 t:=I;have w:∀s t,eC (s,t)=i_ t s:=λs t=>by grind [eC,aC]
 have A:kk (s,l)=fX l s []:=by grind [kk,aC]
 have z:∀j,n_ (s,l) j=dZ (ll (kk (s,l)).1.af.length) (kk (s,l)).1 ((kk (s,l)).2.take j):=λj=>by grind [n_,aC]
 have B:yT (s,l)=n_ (s,l) (kk (s,l)).2.length:=by grind [yT,aC]
 have⟨K,a2,a3⟩:=yS l s [] (λ_ v c=>nomatch c);simp only[Zak,Za6] at a3;unfold Wf;have H:∀(l:List ah) n,gt (ah.mk 0 [] 0 0 false 0 0 []) l n=l.getD n bF:=λ_ _=>rfl
 have g:∀(l:List Int) n,gt 0 l n=l.getD n 0:=λ_ _=>rfl
 simp only[bL,bC,au,aT,br,H,g,bR,Zad,w,B,z,A,Zan,Zao,ZaY,ZaZ];have hw:∀x,x<l.length->F8 (l.getD x bF):=λx d=>D _ (by grind)
 have di:∀x,x<l.length->2*dm (l.getD x bF)<2*uM l+1:=λx d=>by have:=CC d;omega
 refine⟨⟨⟨⟨s,[],0⟩,rfl,rfl,rfl,rfl,rfl,Zaj _,Gw.refl s,Zah _,rfl⟩,λx d=>?_⟩,⟨0,rfl,?_,?_,?_,Zaj _⟩,λj N=>?_⟩
 ·have⟨u,j,i⟩:=x;have⟨i1,i2,i3,i4⟩:=d;simp only at i1 i2 i3 i4 ⊢;have bU:u.bU->j=(fX l s []).2/\(u.af.length:Int)=((fX l s []).1.af.length:Int)/\u.bU=(fX l s []).1.bU/\u.af=(fX l s []).1.af:=λE=>by
   have:fX (l.drop i) u j=(u,j):=by
    cases l.drop i with
    | nil=>rw[fX]
    | cons t m=>rw[fX,Zac E]
   grind
  refine⟨λe=>⟨λr=>?_,λr=>bU r⟩,λe=>?_⟩
  ·have a:i<l.length:=ω;have G:l.drop i=l.getD i bF::l.drop (i+1):=by simp_all
   rw[G,fX,Zaa (by grind)] at i4;have k:=i2.max h1;refine⟨λel=>?_,λel=>?_⟩
   ·rw[A0 ω ω] at el;rw[Zac (by grind)] at i4;rw[<-i4];exact⟨ω,e,⟨⟨k,hw i a⟩,di i a⟩,rfl,rfl,rfl,rfl⟩
   ·have ne:¬(l.drop (i+1)).isEmpty:=by
     grind [List.drop_eq_nil_iff]
    rw[Zaa ne] at i4;have⟨p1,p2⟩:=eU u ⟨2,0,0,[]⟩;have p:=l5 (l.getD i bF) (bH u ⟨2,0,0,[]⟩).1;have⟨q1,O⟩:=eU (i_ (l.getD i bF) (bH u ⟨2,0,0,[]⟩).1) ⟨3,0,0,[]⟩;have m1:=p1.max k;have m2:=p.max m1;have b:=(LM (l5 (l.getD i bF)) u).1;unfold RM at i4 b;refine⟨k,ω,e,⟨⟨m1,hw i a⟩,di i a⟩,m2,by grind,λq=>?_,λq=>?_⟩
    ·have⟨P,J,Q⟩:=p2 (p.low (q1.low q));have hl:(u.af.length:Int)<((bH (i_ (l.getD i bF) (bH u ⟨2,0,0,[]⟩).1) ⟨3,0,0,[]⟩).1.af.length:Int):=by
      have:=p.len;grind
     have f:ly (bH (i_ (l.getD i bF) (bH u ⟨2,0,0,[]⟩).1) ⟨3,0,0,[]⟩).1 false (bH u ⟨2,0,0,[]⟩).2=⟨fx (bH (i_ (l.getD i bF) (bH u ⟨2,0,0,[]⟩).1) ⟨3,0,0,[]⟩).1.af.length false (bH (i_ (l.getD i bF) (bH u ⟨2,0,0,[]⟩).1) ⟨3,0,0,[]⟩).1.af (bH u ⟨2,0,0,[]⟩).2,false⟩:=by grind [ly]
     rw[f] at i4 b;rw[J] at i4 b ⊢;generalize (bH (i_ (l.getD i bF) (bH u ⟨2,0,0,[]⟩).1) ⟨3,0,0,[]⟩)=Z at*
     have hi:u.af.length<Z.1.af.length:=ω;have C:ay .i64 (u.af.length:Int) 1=(u.af.length:Int)+1:=ba ω ω;simp only[Zad,C];refine⟨ω,hl,ω,hl,⟨⟨fx Z.1.af.length false Z.1.af u.af.length,false⟩,j++[Z.2],i+1⟩,rfl,bK ω,by rw[ep],q,?_,⟨a,i2.trans b,by grind,i4⟩,show l.length-(i+1)<l.length-i by omega⟩;rw[CK hi,tT];rfl
    ·have f:ly (bH (i_ (l.getD i bF) (bH u ⟨2,0,0,[]⟩).1) ⟨3,0,0,[]⟩).1 false (bH u ⟨2,0,0,[]⟩).2=(bH (i_ (l.getD i bF) (bH u ⟨2,0,0,[]⟩).1) ⟨3,0,0,[]⟩).1:=by grind [ly]
     rw[f] at i4 b;exact⟨⟨_,_,i+1⟩,rfl,bK ω,rfl,rfl,rfl,⟨a,i2.trans b,by grind,i4⟩,show l.length-(i+1)<l.length-i by omega⟩
  ·grind [fX]
 ·grind [fP,iS]
 ·grind [fP,iS]
 ·grind [dZ]
 ·generalize fX l s []=R at*
  have F:=fP (ll (R.1.af.length:Nat)) (λl j=>iS _ _ _) R.1;have done:¬j<R.2.length\/(dZ (ll (R.1.af.length:Nat)) R.1 (R.2.take j)).bU->dZ (ll (R.1.af.length:Nat)) R.1 (R.2.take j)=dZ (ll (R.1.af.length:Nat)) R.1 (R.2.take R.2.length):=λh=>by
   grind [dZ]
  refine⟨λe=>⟨λo=>?_,λo=>co3 (done (.inr o))⟩,λe=>co3 (done (.inl ω))⟩;have a:j<R.2.length:=ω;have⟨g1,g2,g3⟩:=yU a o (λl j=>iS _ _ _);have c:=a2 g2 (R.2.getD j 0) (by grind);rw[(F _).2.1];exact⟨ω,e,c.1,c.2,j+1,bK ω,by grind,by grind,g1,ω,ω⟩
theorem Bq {q:Bool} (h:s.bU\/q):∀n,n' Z q n s=s
 | 0=>rfl
 | n+1=>by grind [n']
theorem OG (h:s.bU):∀n,jT Z n s a=(s,a)
 | 0=>rfl
 | n+1=>by grind [jT]
theorem QsK (y:LN) (L:OF.pre y):Wg y:=by
 have⟨c,x,k⟩:=y;obtain⟨h1,Q,g,S,T,U⟩:c.af.length<=400/\c.bU=false/\F8 k/\0<=x.mn/\x.mn<=30/\(x.mx= -1\/(x.mn<=x.mx/\x.mx<=30)):=L;have I:∀s,eC (s,k)=i_ k s:=λs=>by grind [eC,aC]
 have r:km ⟨c,x,k⟩=n' (i_ k) (jS k) x.mn.toNat c:=by grind [km,aC]
 have O:rE ⟨c,x,k⟩=lj x.mn x.mx:=by grind [rE,aC]
 have t:iD ⟨c,x,k⟩=jT (i_ k) (rE ⟨c,x,k⟩) (km ⟨c,x,k⟩) []:=by grind [iD,aC]
 have J:∀j,oL ⟨c,x,k⟩ j=dZ (fx (iD ⟨c,x,k⟩).1.af.length x.lz) (iD ⟨c,x,k⟩).1 ((iD ⟨c,x,k⟩).2.take j):=λj=>by unfold oL;rw[aC]
 have P:pM ⟨c,x,k⟩=yR (i_ k) (jS k) x.mn x.mx x.lz c:=by grind [pM,aC]
 have w:=wu (jS k) (l5 k) x.mn.toNat c;have⟨C,D,N⟩:=tV (l5 k) (rE ⟨c,x,k⟩) (km ⟨c,x,k⟩) [] (λ_ v B=>nomatch B);rw[<-r] at w;rw[<-t] at C D N;have m:=w.max h1;unfold Wg;have o:∀(l:List Int) n,gt 0 l n=l.getD n 0:=λ_ _=>rfl
 simp only[bL,bC,au,aT,br,o,bR,Zad,I,J,Zan,Zao,ZaY,ZaZ];have di:2*dm k<2*dm k+1:=ω;refine⟨g,⟨⟨(c,0),rfl,rfl,rfl,rfl,Zaj _,Gw.refl c,r.symm⟩,λz hz=>?_⟩,λem=>?_,λem=>?_⟩
 ·have⟨u,i⟩:=z;have⟨i1,i2,i3⟩:=hz;have stop:u.bU\/jS k->(u.af.length:Int)=((km ⟨c,x,k⟩).af.length:Int)/\u.bU=(km ⟨c,x,k⟩).bU/\u.af=(km ⟨c,x,k⟩).af:=λh=>by
   grind [Bq]
  refine⟨λe=>⟨λf=>⟨λq=>?_,λq=>stop (.inr q)⟩,λf=>stop (.inl f)⟩,λe=>?_⟩
  ·rw[show x.mn.toNat-i=(x.mn.toNat-(i+1))+1 by omega,n',Zaa (by grind)] at i3;exact⟨⟨⟨i2.max h1,g⟩,di⟩,(i_ k u,i+1),bK ω,rfl,rfl,rfl,⟨show i+1<=x.mn.toNat by omega,i2.trans (l5 _ _),i3⟩,show x.mn.toNat-(i+1)<x.mn.toNat-i by omega⟩
  ·rw[show x.mn.toNat-i=0 by omega,n'] at i3;exact co3 i3
 ·have E:pM ⟨c,x,k⟩=Bp (i_ k) x.lz (km ⟨c,x,k⟩):=by grind [yR]
  unfold Bp at E;generalize km ⟨c,x,k⟩=A at*
  have⟨p1,p2⟩:=eU A ⟨2,0,0,[]⟩;have d:=l5 k (bH A ⟨2,0,0,[]⟩).1;have⟨q1,Y⟩:=eU (i_ k (bH A ⟨2,0,0,[]⟩).1) ⟨3,(bH A ⟨2,0,0,[]⟩).2,0,[]⟩;have m1:=p1.max m;have m2:=d.max m1;refine⟨m,⟨⟨m1,g⟩,di⟩,m2,λG=>?_,λG=>?_⟩
  ·have⟨Z,r2,r3⟩:=p2 (d.low (q1.low G));have:=d.len;grind [ly]
  ·grind [ly]
 ·have E:pM ⟨c,x,k⟩=dZ (fx (iD ⟨c,x,k⟩).1.af.length x.lz) (iD ⟨c,x,k⟩).1 (iD ⟨c,x,k⟩).2:=by grind [yR]
  have V:rE ⟨c,x,k⟩<=30/\x.mn+(rE ⟨c,x,k⟩:Nat)=x.mx:=by grind [lj]
  have K:∀z,crJ ⟨c,x,k⟩ z↔(z.i<=rE ⟨c,x,k⟩/\Gw (km ⟨c,x,k⟩) z.s/\z.j.length<=z.i/\jT (i_ k) (rE ⟨c,x,k⟩ -z.i) z.s z.j=iD ⟨c,x,k⟩):=λz=>ZbW
  simp only[K];rw[E];generalize rE ⟨c,x,k⟩=M at*
  generalize km ⟨c,x,k⟩=A at*
  refine⟨⟨⟨⟨A,[],0⟩,rfl,by simp,rfl,rfl,rfl,Zaj _,Gw.refl A,Zah _,t.symm⟩,λz hz=>?_⟩,⟨0,rfl,?_,?_,?_,Zaj _⟩,λj W=>?_⟩
  ·have⟨u,j,i⟩:=z;have⟨i1,i2,i3,i4⟩:=hz;simp only at i1 i2 i3 i4 ⊢;have stop:∀n,jT (i_ k) n u j=(u,j)->jT (i_ k) n u j=iD ⟨c,x,k⟩->j=(iD ⟨c,x,k⟩).2/\(u.af.length:Int)=((iD ⟨c,x,k⟩).1.af.length:Int)/\u.bU=(iD ⟨c,x,k⟩).1.bU/\u.af=(iD ⟨c,x,k⟩).1.af:=λn a b=>by
    grind
   refine⟨λe=>⟨λf=>?_,λf=>stop _ (OG f _) i4⟩,λe=>?_⟩
   ·rw[show M-i=(M-(i+1))+1 by omega,jT,Zaa (by grind)] at i4;have p1:=(eU u ⟨2,0,0,[]⟩).1;have d:=l5 k (bH u ⟨2,0,0,[]⟩).1;have mu:=i2.max m;refine⟨mu,by grind,⟨⟨p1.max mu,g⟩,di⟩,⟨i_ k (bH u ⟨2,0,0,[]⟩).1,j++[(bH u ⟨2,0,0,[]⟩).2],i+1⟩,rfl,?_,rfl,rfl,rfl,⟨show i+1<=M by omega,(i2.trans p1).trans d,by grind,i4⟩,show M-(i+1)<M-i by omega⟩;grind
   ·rw[show M-i=0 by omega] at i4;exact stop 0 rfl i4
  ·grind [fP,ep]
  ·grind [fP,ep]
  ·grind [dZ]
  ·have X:=C.max m;generalize iD ⟨c,x,k⟩=R at*
   have F:=fP (fx (R.1.af.length:Nat) x.lz) (λl j=>ep _ _ _ _) R.1;have done:¬j<R.2.length\/(dZ (fx (R.1.af.length:Nat) x.lz) R.1 (R.2.take j)).bU->dZ (fx (R.1.af.length:Nat) x.lz) R.1 (R.2.take j)=dZ (fx (R.1.af.length:Nat) x.lz) R.1 R.2:=λh=>by
    grind [dZ]
   refine⟨λe=>⟨λp=>?_,λp=>co3 (done (.inr p))⟩,λe=>co3 (done (.inl ω))⟩;have H:j<R.2.length:=ω;have⟨g1,g2,g3⟩:=yU H p (λl j=>ep _ _ _ _);have B:=D g2 (R.2.getD j 0) (by grind);grind [bK]
inductive Fo where
 | n | a | r
noncomputable section
def foC:Fo->bh D
 | .n=>Jl | .a=>OE | .r=>OF
def QsL:∀i,(foC i).Y->Nat
 | .n=>λy=>2*dm y.2 | .a=>λy=>2*uM y.2+1 | .r=>λy=>2*dm y.k+1
def foF:Fo->Func
 | .n=>f133 | .a=>f190 | .r=>f191
def QkX:Fo->s7
 | .n=>[zQ] | .a=>[zQ] | .r=>[zQ,Wa,FD]
def foO:∀i,(foC i).Y->cH D
 | .n=>QkS | .a=>QkT | .r=>QkV
def QsM:∀i,Ok (foC i):=
 xH [.n,.a,.r] foC QsL (fn:=foF) (tab:=QkX) (fI:=foO)
  (λi=>match i with
   | .n=>LK | .a=>LK | .r=>⟨LK,QkO,QkN⟩)
  (λi=>match i with
   | .n=>by kernel_rfl | .a=>by kernel_rfl | .r=>by kernel_rfl)
  (λi=>match i with
   | .n=>by kernel_rfl | .a=>by kernel_rfl | .r=>by kernel_rfl)
  λi=>match i with
   | .n=>λy b=>Eq.mp (Ϥ y) (QsI y b) | .a=>λy b=>Eq.mp (ϥ y) (QsJ y b) | .r=>λy b=>Eq.mp (Ϧ y) (QsK y b)
end
structure Fit (f:dr->dr) (g:Nat->List aW) (sz:Nat):Prop where
 gw:∀s,Gw s (f s)
 len:∀b,(g b).length=sz
 ok:∀c:List aW,c.length+sz<=400->f ⟨c,false⟩=⟨c++g c.length,false⟩
 no:∀c:List aW,c.length<=400->400<c.length+sz->(f ⟨c,false⟩).bU=true
variable {Z:dr->dr} {g:Nat->List aW} {a:Nat} {l:List ah}
def Fit.bU (h:Fit Z g a) {s:dr} (hs:s.bU):(Z s).bU:=(h.gw s).bU hs
theorem l6 (i:aW):Fit (λs=>(bH s i).1) (λ_=>[i]) 1:=by
 refine⟨λs=>(eU s i).1,λ_=>rfl,λc h=>?_,λc h a=>?_⟩
 all_goals grind [bH]
def Fit.then {d:dr->dr} {e:Nat->List aW} {b:Nat} (h:Fit Z g a) (k:Fit d e b):Fit (λs=>d (Z s)) (λn=>g n++e (n+a)) (a+b):=by
 refine⟨λs=>(h.gw s).trans (k.gw _),λn=>by rw[Zab,h.len,k.len],λc i=>?_,λc h1 j=>?_⟩
 ·rw[h.ok c ω,k.ok _ (by rw[Zab,h.len];omega),Zab,h.len,ZaD]
 ·by_cases i:c.length+a<=400
  ·rw[h.ok c i];exact k.no _ (by rw[Zab,h.len];omega) (by rw[Zab,h.len];omega)
  ·exact k.bU (h.no c h1 ω)
theorem lC (s:dr) (i:aW) (c:List aW) (h:s=⟨c,false⟩):(c.length<400->bH s i=(⟨c++[i],false⟩,(c.length:Int)))/\(400<=c.length->bH s i=(⟨c,true⟩,0)):=by
 grind [bH]
theorem yV (h:Fit Z g a) (lz:Bool) (J:Int->aW) (c:List aW) (e:c.length<=400):
  (c.length+(a+2)<=400->(bH (Z (bH ⟨c,false⟩ ⟨2,0,0,[]⟩).1) (J (bH ⟨c,false⟩ ⟨2,0,0,[]⟩).2))=(⟨c++⟨2,0,0,[]⟩::(g (c.length+1)++[J c.length]),false⟩,((c.length+1+a:Nat):Int))/\
   ly (bH (Z (bH ⟨c,false⟩ ⟨2,0,0,[]⟩).1) (J (bH ⟨c,false⟩ ⟨2,0,0,[]⟩).2)).1 lz (bH ⟨c,false⟩ ⟨2,0,0,[]⟩).2=⟨c++hZ lz c.length (c.length+a+2)::(g (c.length+1)++[J c.length]),false⟩)/\
  (400<c.length+(a+2)->(bH (Z (bH ⟨c,false⟩ ⟨2,0,0,[]⟩).1) (J (bH ⟨c,false⟩ ⟨2,0,0,[]⟩).2)).1.bU/\(ly (bH (Z (bH ⟨c,false⟩ ⟨2,0,0,[]⟩).1) (J (bH ⟨c,false⟩ ⟨2,0,0,[]⟩).2)).1 lz (bH ⟨c,false⟩ ⟨2,0,0,[]⟩).2).bU):=by
 constructor
 ·intro b;have d:=(lC ⟨c,false⟩ ⟨2,0,0,[]⟩ c rfl).1 ω;have sz:(c++[(⟨2,0,0,[]⟩:aW)]).length=c.length+1:=by simp
  have e2:=h.ok (c++[⟨2,0,0,[]⟩]) ω;have i:(c++[(⟨2,0,0,[]⟩:aW)]++g (c.length+1)).length=c.length+1+a:=by rw[Zab,h.len,sz]
  grind [lC,ly,sP,hZ]
 ·intro b;have bU:(bH (Z (bH ⟨c,false⟩ ⟨2,0,0,[]⟩).1) (J (bH ⟨c,false⟩ ⟨2,0,0,[]⟩).2)).1.bU:=by
   by_cases h0:c.length<400
   ·rw[(lC ⟨c,false⟩ ⟨2,0,0,[]⟩ c rfl).1 h0];have sz:(c++[(⟨2,0,0,[]⟩:aW)]).length=c.length+1:=by simp
    by_cases h1:c.length+1+a<=400
    ·simp only[h.ok (c++[⟨2,0,0,[]⟩]) ω];rw[(lC _ _ _ rfl).2 (by rw[Zab,h.len,sz];omega)]
    ·exact(eU _ _).1.bU (h.no _ ω ω)
   ·rw[(lC ⟨c,false⟩ ⟨2,0,0,[]⟩ c rfl).2 ω];exact(eU _ _).1.bU ((h.gw _).bU rfl)
  grind [CX]
def Wh (h:Fit Z g a) (lz:Bool):Fit (Bp Z lz) (λb=>hZ lz b (b+a+2)::(g (b+1)++[⟨3,(b:Nat),0,[]⟩])) (a+2):=by
 refine⟨λs=>LL h.gw lz s,λb=>by simp[h.len],λc d=>?_,λc h1 sz=>?_⟩
 ·exact((yV h lz (λj=>⟨3,j,0,[]⟩) c ω).1 d).2
 ·exact((yV h lz (λj=>⟨3,j,0,[]⟩) c h1).2 sz).2
theorem LP (h:Fit Z g a) {q:Bool} (i:q=decide (a=0)):∀n,Fit (n' Z q n) (iq g a n) (n*a)
 | 0=>⟨λs=>Gw.refl s,λb=>by simp[iq],λc sz=>by simp[n',iq],λc h1 e=>ω⟩
 | n+1=>by
  have d:=LP h i n;refine⟨λs=>wu q h.gw _ s,λb=>pH h.len _ b,λc sz=>?_,λc h1 e=>?_⟩
  ·rw[ZaV] at sz;by_cases h0:a=0
   ·rw[Bq (.inr (by grind)),show iq g a (n+1) c.length=[] from Zap (by rw[pH h.len,h0];simp),Zaw]
   ·rw[n',Zaa (by grind),h.ok c ω,d.ok _ (by rw[Zab,h.len];omega),iq,Zab,h.len,ZaD]
  ·rw[ZaV] at e;rw[n',Zaa (by grind)];by_cases sz:c.length+a<=400
   ·rw[h.ok c sz];exact d.no _ (by rw[Zab,h.len];omega) (by rw[Zab,h.len];omega)
   ·exact d.bU (h.no c h1 ω)
theorem C0 (h:Fit Z g a):∀(n:Nat) (c:List aW) (j:List Int),c.length<=400->
  (c.length+n*(a+1)<=400->jT Z n ⟨c,false⟩ j=(⟨c++fp (λ_=>⟨2,0,0,[]⟩) g a n c.length,false⟩,j++jL a n c.length))/\(400<c.length+n*(a+1)->(jT Z n ⟨c,false⟩ j).1.bU)
 | 0,c,j,b=>⟨λ_=>by simp[jT,fp,jL],λi=>ω⟩
 | n+1,c,j,b=>by
  have sz:(c++[(⟨2,0,0,[]⟩:aW)]).length=c.length+1:=by simp
  rw[jT,Zaa (by simp),ZaV];by_cases h0:c.length<400
  ·rw[(lC ⟨c,false⟩ ⟨2,0,0,[]⟩ c rfl).1 h0];by_cases h1:c.length+1+a<=400
   ·rw[h.ok _ ω,sz];have k:(c++[(⟨2,0,0,[]⟩:aW)]++g (c.length+1)).length=c.length+1+a:=by rw[Zab,h.len,sz]
    have⟨i1,i2⟩:=C0 h n (c++[⟨2,0,0,[]⟩]++g (c.length+1)) (j++[(c.length:Int)]) ω;grind [fp,jL]
   ·refine⟨λd=>ω,λ_=>(tV h.gw n _ _ ?_).1.bU (h.no _ ω ω)⟩;intro e;rw[h.no _ ω ω] at e;cases e
  ·rw[(lC ⟨c,false⟩ ⟨2,0,0,[]⟩ c rfl).2 ω];refine⟨λd=>ω,λ_=>(tV h.gw n _ _ ?_).1.bU ((h.gw _).bU rfl)⟩;intro e;rw[(h.gw ⟨c,true⟩).bU rfl] at e;cases e
def Wi (h:Fit Z g a) {q:Bool} (m:q=decide (a=0)) (mn mx:Int) (lz:Bool):
  Fit (yR Z q mn mx lz) (IK g a mn mx lz) (mn.toNat*a+(if mx= -1 then a+2 else lj mn mx*(a+1))):=by
 have d:=LP h m mn.toNat;unfold yR IK;by_cases sz:mx= -1
 ·simp only[sz,Zbv];exact d.then (Wh h lz)
 ·simp only[sz,Za0];generalize lj mn mx=n;have hO:Fit (λs=>dZ (fx (jT Z n s []).1.af.length lz) (jT Z n s []).1 (jT Z n s []).2) (λb=>fp (λi=>hZ lz i (b+n*(a+1))) g a n b) (n*(a+1)):=by
   refine⟨λs=>?_,λb=>pI h.len _ b,λc k=>?_,λc h1 e=>?_⟩
   ·exact(tV h.gw n s [] (λ_ v o=>nomatch o)).1.trans (fP _ (λl j=>ep _ _ _ _) _ _).1
   ·simp only[(C0 h n c [] ω).1 k];unfold dZ;rw[Zaa (by simp)];have p:(c++fp (λ_=>(⟨2,0,0,[]⟩:aW)) g a n c.length).length=c.length+n*(a+1):=by rw[Zab,pI h.len]
    simp only[p,Zcb];rw[CJ h.len n c c.length rfl]
   ·rw[(fP _ (λl j=>ep _ _ _ _) _ _).2.2];exact(C0 h n c [] h1).2 e
  exact d.then hO
theorem Ϩ (h:∀t∈l,Fit (i_ t) (bS t) (bt t)):∀(c:List aW) (j:List Int),c.length<=400->
  (c.length+(aQ l+2*(l.length-1))<=400->fX l ⟨c,false⟩ j=(⟨c++kj l c.length 0,false⟩,j++jR l.dropLast c.length))/\(400<c.length+(aQ l+2*(l.length-1))->(fX l ⟨c,false⟩ j).1.bU):=by
 induction l with
 | nil=>exact λc j a=>⟨λ_=>by simp[fX,kj,jR],λd=>by grind [aQ]⟩
 | cons t l f=>
  intro c j a;have ht:=h t (by simp);rw[fX,Zaa (by simp)];cases l with
  | nil=>
   rw[kj];simp only[List.isEmpty_nil,Zbv,aQ,Zae,Zak,List.dropLast_singleton,jR,Zaw];exact⟨λb=>by rw[ht.ok c ω],λb=>ht.no c a ω⟩
  | cons u l=>
   rw[Zaa (by simp),kj,Zaa (by simp),aQ,Zae,List.dropLast_cons₂,jR];have⟨k1,k2⟩:=yV ht false (λ_=>⟨3,0,0,[]⟩) c a;unfold RM;by_cases hs:c.length+(bt t+2)<=400
   ·have⟨k3,k4⟩:=k1 hs;have g:(c++hZ false c.length (c.length+bt t+2)::(bS t (c.length+1)++[(⟨3,0,0,[]⟩:aW)])).length=c.length+2+bt t:=by simp[ht.len];omega
    grind [hZ]
   ·have⟨k3,k4⟩:=k2 ω;simp only[Zae];refine⟨λb=>ω,λ_=>(yS _ _ _ ?_).1.bU k4⟩;intro e;grind
theorem ϩ (h:∀t∈l,Fit (i_ t) (bS t) (bt t)):Fit (lB l) (bu l) (aQ l):=by
 induction l with
 | nil=>exact⟨λs=>CY _ s,λb=>by rfl,λc d=>by simp[lB,bu],λc h1 a=>by grind [aQ]⟩
 | cons t l e=>
  have k:=(h t (by simp)).then (e λu hu=>h u (by grind));refine⟨λs=>CY _ s,λb=>by rw[bu,aQ];exact k.len b,λc d=>?_,λc h1 a=>?_⟩
  ·rw[lB,Zaa (by simp),bu];rw[aQ] at d;exact k.ok c d
  ·rw[lB,Zaa (by simp)];rw[aQ] at a;exact k.no c h1 a
theorem LQ (h:l.length=1):l=[l.getD 0 bF]:=by
 match l,h with
 | [k],_=>rfl
mutual
theorem FE:∀t:ah,ku t->CU t=decide (bt t=0)
 | .mk op r mn mx lz cap nk ks,h=>by
  rw[ku] at h
  rw[CU,bt]
  unfold pF
  by_cases h1:op=1
  ·have h0:(ks.length:Int)=0:=h.1.none h1
   have:ks=[]:=Zap ω
   subst this
   subst h1
   simp[aQ]
  ·rw[Zaa h1]
   by_cases h3:op=3
   ·rw[Zac h3,Br ks h.2.2]
    simp[h3]
   ·rw[Zaa h3]
    by_cases h5:op=5
    ·obtain⟨w1,w2,w3,w4⟩:=h.1.rep h5
     simp only at w1 w2 w3 w4
     rw[Zac h5,Bs ks h.2.2 ω]
     subst h5
     simp only[show ¬((5:Int)=2\/(5:Int)=7\/(5:Int)=8) by decide,show ¬((5:Int)=4) by decide,show ¬((5:Int)=6) by decide,Za0,Zbv]
     by_cases m0:mx=0
     ·have:mn=0:=ω
      subst this;subst m0;simp
     ·rw[Zaa m0]
      by_cases m1:mx= -1
      ·rw[Zac m1]
       have:¬mn=mx:=ω
       simp[this]
      ·rw[Zaa m1]
       by_cases me:mn=mx
       ·obtain⟨k,hk⟩:∃k,mn.toNat=k+1:=⟨mn.toNat-1,ω⟩
        have hd:mx.toNat-mn.toNat=0:=ω
        rw[hd,hk]
        simp[me,Nat.mul_eq_zero]
       ·obtain⟨d,hd⟩:∃d,mx.toNat-mn.toNat=d+1:=⟨mx.toNat-mn.toNat-1,ω⟩
        rw[hd]
        simp[me]
    ·rw[Zaa h5]
     have:=h.1.op h1
     simp only at this
     rcases this with g | g | g | g | g | g | g
     ·simp[g]
     ·simp[g]
     ·simp[g]
     ·exact absurd g h3
     ·have:=h.1.aH g
      simp only at this
      simp[g]
      omega
     ·exact absurd g h5
     ·simp[g]
theorem Br:∀l:List ah,nf l->qI l=decide (aQ l=0)
 | [],_=>by simp[qI,aQ]
 | t::l,h=>by
  rw[nf] at h
  rw[qI,aQ,FE t h.1,Br l h.2,ZaG]
  simp
theorem Bs:∀l:List ah,nf l->l.length=1->CW l=decide (aQ l=0)
 | [t],h,_=>by
  rw[nf] at h
  rw[CW,aQ,aQ,FE t h.1]
  rfl
end
def nf.tail {t:ah} {l:List ah} (h:nf (t::l)):ku t/\nf l:=by assumption
mutual
theorem Wj:∀t:ah,ku t->Fit (i_ t) (bS t) (bt t)
 | .mk op r mn mx lz cap nk ks,h=>by
  have hw:=(iQ _).mp h
  have hk:∀t∈ks,Fit (i_ t) (bS t) (bt t):=LS ks hw.2.2
  generalize ht:ah.mk op r mn mx lz cap nk ks=t at*
  have eks:t.ae=ks:=by rw[<-ht];rfl
  rw[<-eks] at hk
  clear ht eks
  have key:∀{f:dr->dr} {g:Nat->List aW},Fit f g (bt t)->(∀s,s.bU=false->i_ t s=f s)->(∀b,bS t b=g b)->Fit (i_ t) (bS t) (bt t):=λF e e2=>
   ⟨λs=>l5 t s,λb=>by rw[e2,F.len],λc hc=>by rw[e _ rfl,e2,F.ok c hc],λc h1 h2=>by rw[e _ rfl,F.no c h1 h2]⟩
  have di:=size_eq t
  unfold pF at di
  have ns:∀{X:dr->dr} {s:dr},s.bU=false->(if s.bU=true then s else X s)=X s:=λhb=>Zaa (by rw[hb];simp)
  by_cases h1:t.op=1
  ·have h0:(t.ae.length:Int)=0:=hw.1.none h1
   have hn:t.ae=[]:=Zap ω
   have s0:bt t=0:=by rw[di,hn];simp[h1,aQ]
   rw[s0] at key ⊢
   refine key (f:=id) (g:=λ_=>[]) ⟨λs=>Gw.refl s,λ_=>rfl,λc _=>by simp,λc h1 h2=>ω⟩ (λs hb=>?_) λb=>?_
   ·rw[sU,Zaa (by rw[hb];simp),Zaa ω,Zaa ω,Zaa ω,Zaa ω,Zaa ω,Zaa ω,Zaa ω];rfl
   ·rw[lq,Zaa ω,Zaa ω,Zaa ω,Zaa ω,Zaa ω,Zaa ω,Zaa ω]
  ·rcases hw.1.op h1 with h2 | h2 | h2 | h2 | h2 | h2 | h2
   all_goals have h2:t.op=_:=h2
   ·rw[Zac ω] at di
    rw[di] at key ⊢
    exact key (l6 ⟨1,0,0,t.r⟩) (λs hb=>by rw[sU,Zaa (by rw[hb];simp),Zac h2]) λb=>by rw[lq,Zac h2]
   ·rw[Zac ω] at di
    rw[di] at key ⊢
    exact key (l6 ⟨5,0,0,[]⟩) (λs hb=>by rw[sU,Zaa (by rw[hb];simp),Zaa ω,Zaa ω,Zaa ω,Zaa ω,Zaa ω,Zac h2]) λb=>by rw[lq,Zaa ω,Zac h2]
   ·rw[Zac ω] at di
    rw[di] at key ⊢
    exact key (l6 ⟨6,0,0,[]⟩) (λs hb=>by rw[sU,Zaa (by rw[hb];simp),Zaa ω,Zaa ω,Zaa ω,Zaa ω,Zaa ω,Zaa ω,Zac h2]) λb=>by rw[lq,Zaa ω,Zaa ω,Zac h2]
   ·rw[Zaa ω,Zaa ω,Zaa ω,Zaa ω] at di
    rw[di] at key ⊢
    exact key (ϩ hk) (λs hb=>by rw[sU,Zaa (by rw[hb];simp),Zaa ω,Zac h2]) λb=>by rw[lq,Zaa ω,Zaa ω,Zaa ω,Zac h2]
   ·rw[Zaa ω,Zac h2] at di
    rw[di] at key ⊢
    have hA:=Ϩ hk
    have h0:1<=t.ae.length:=by have:=hw.1.aH h2;simp only at this;omega
    have hlast:t.ae=t.ae.dropLast++[t.ae.getD (t.ae.length-1) bF]:=by
     rw[Zcz]
     conv=>lhs;rw[<-ZaM (l:=t.ae),show t.ae.length=(t.ae.length-1)+1 by omega]
     rw[cq bF ω]
    refine key (f:=λs=>dZ (ll (fX t.ae s []).1.af.length) (fX t.ae s []).1 (fX t.ae s []).2) (g:=λb=>kj t.ae b (b+aQ t.ae+2*(t.ae.length-1))) ?_ (λs hb=>by rw[sU,Zaa (by rw[hb];simp),Zaa ω,Zaa ω,Zac h2]) λb=>by rw[lq,Zaa ω,Zaa ω,Zaa ω,Zaa ω,Zac h2]
    refine⟨λs=>(yS t.ae s [] (λ_ v hv=>(nomatch hv))).1.trans (fP _ (λl j=>iS _ _ _) _ _).1,λb=>lu _ _ _ hw.2.2,λc hc=>?_,λc h1 h2=>?_⟩
    ·simp only[(hA c [] ω).1 hc]
     unfold dZ
     rw[Zaa (by simp)]
     have n1:(c++kj t.ae c.length 0).length=c.length+aQ t.ae+2*(t.ae.length-1):=by rw[Zab,lu _ _ _ hw.2.2];omega
     simp only[n1,Zcb]
     congr 1
     conv=>lhs;rw[hlast,qu]
     have:=CI (e:=c.length+aQ t.ae+2*(t.ae.length-1)) t.ae.dropLast c (bS (t.ae.getD (t.ae.length-1) bF) (c.length+(aQ t.ae.dropLast+2*t.ae.dropLast.length))) c.length (by rw[Zcz];exact hw.2.2.take _) rfl
     rw[<-hlast,this]
     conv=>rhs;arg 2;arg 1;rw[hlast]
     rw[qu]
    ·rw[(fP _ (λl j=>iS _ _ _) _ _).2.2]
     exact(hA c [] h1).2 h2
   ·rw[Zaa ω,Zaa ω,Zaa ω,Zac h2] at di
    obtain⟨w1,_⟩:=hw.1.rep h2
    simp only at w1
    have hks:=LQ (l:=t.ae) ω
    have qX:aQ t.ae=bt (t.ae.getD 0 bF):=by conv=>lhs;rw[hks,aQ,aQ,Zbn]
    have hcl:∀b,bu t.ae b=bS (t.ae.getD 0 bF) b:=λb=>by conv=>lhs;rw[hks,bu,bu,Zaw]
    have hH:∀s,Pk t.ae s=i_ (t.ae.getD 0 bF) s:=λs=>LO ω s
    have hq:=Bs t.ae hw.2.2 ω
    have k0:=hk (t.ae.getD 0 bF) (by rw[eL ω];exact Zas _)
    rw[<-qX] at k0
    have e1:(λs=>Pk t.ae s)=i_ (t.ae.getD 0 bF):=funext hH
    have e2:(λb=>bu t.ae b)=bS (t.ae.getD 0 bF):=funext hcl
    have F:=Wi k0 hq t.mn t.mx t.lz
    have hs2:bt t=t.mn.toNat*aQ t.ae+(if t.mx= -1 then aQ t.ae+2 else lj t.mn t.mx*(aQ t.ae+1)):=by
     rw[di]
     split
     ·omega
     ·rfl
    rw[hs2] at key ⊢
    exact key F (λs hb=>by rw[sU,Zaa (by rw[hb];simp),Zaa ω,Zaa ω,Zaa ω,Zac h2,e1]) λb=>by rw[lq,Zaa ω,Zaa ω,Zaa ω,Zaa ω,Zaa ω,Zac h2,e2]
   ·rw[Zaa ω,Zaa ω,Zac h2] at di
    obtain⟨w1,_⟩:=hw.1.vg h2
    simp only at w1
    have hks:=LQ (l:=t.ae) ω
    have qX:aQ t.ae=bt (t.ae.getD 0 bF):=by conv=>lhs;rw[hks,aQ,aQ,Zbn]
    have hcl:∀b,bu t.ae b=bS (t.ae.getD 0 bF) b:=λb=>by conv=>lhs;rw[hks,bu,bu,Zaw]
    have k0:=hk (t.ae.getD 0 bF) (by rw[eL ω];exact Zas _)
    rw[<-qX] at k0
    have F:=((l6 ⟨4,2*t.cap,0,[]⟩).then k0).then (l6 ⟨4,2*t.cap+1,0,[]⟩)
    rw[show 1+aQ t.ae+1=bt t by rw[di];omega] at F
    exact key F (λs hb=>by rw[sU,Zaa (by rw[hb];simp),Zaa ω,Zaa ω,Zaa ω,Zaa ω,Zac h2,LO ω]) λb=>by rw[lq,Zaa ω,Zaa ω,Zaa ω,Zaa ω,Zaa ω,Zaa ω,Zac h2,hcl];simp
theorem LS:∀l:List ah,nf l->∀t∈l,Fit (i_ t) (bS t) (bt t)
 | [],_=>λt ht=>nomatch ht
 | t::l,h=>λu hu=>by
  rw[nf] at h
  rcases List.mem_cons.mp hu with e | e
  ·rw[e];exact Wj t h.1
  ·exact LS l h.2 u e
end
def RdP (y:List Nd×Int):Prop:=0<=y.2/\y.1.length<=480/\∃t r,ku t/\y.1.drop y.2.toNat=aD t++r
def lD (y:List Nd×Int):ah:=lk (cu (y.1.drop y.2.toNat)).1
def Wl (y:List Nd×Int):Int:=lk (y.2+(aD (lD y)).length)
def Jm:bh D:=bO 129 (List Nd×Int) (λa s=>match a with
 | [l,i]=>az (aL D s 7 l) λl=>aP (cT i) λ_ i=>.ret ((l:List Nd),i)
 | _=>.fail) RdP (λy=>[.list 7 y.1,Qvo y.2]) λy=>.tuple [.agg (D.a_ 15 (lD y)),Qvo (Wl y)]
def OH (y:List Nd×Int) (k:Nat):Int:=lk (y.2+1+(aA ((lD y).ae.take k)).length)
def QsO (y:Jm.Y):cH D:=⟨[],[],[(122,⟨Nat,[0],λk=>[(1,Qvo (OH y k)),(4,.ptr 0 0),(6,.ptr 1 0),(7,Qvo k)],[],λk=>[vE 0 bF,(1,.cells [Qvo (lD y).op,.list 6 (lD y).r,Qvo (lD y).mn,Qvo (lD y).mx,.bool (lD y).lz,Qvo (lD y).cap,Qvo (lD y).nk,.grow 15 ((lD y).ae.take k) 2] 221 false),tkO 2],3,λk=>k<=(lD y).ae.length,λk=>(lD y).ae.length-k⟩)],[],1,[]⟩
def QsP (y:Jm.Y):Prop:=vc [Jm.under (λy=>dm (lD y)) (dm (lD y))] f129 Jm QsO y
def Jn:bh D:=bO 81 (List (List Nd)) Qj9 pJ (λy=>[.list 9 y]) λy=>.tuple [.agg [.list 8 (bZ y).1.1,.list 5 (bZ y).1.2],Qvo (bZ y).2.1,Qvo (bZ y).2.2]
structure DcX where
 c:List aW
 s:List Int
 r:Nat
def Ϫ (y:List (List Nd)) (x:DcX):Prop:=x.r<=y.length/\y.length<=8/\x.c.length<=400/\x.s.length=x.r/\ni (y.drop x.r) x.r x.c x.s=bZ y
def QsQ (y:Jn.Y):cH D:=⟨[],[],[(250,⟨DcX,[0],λx=>[(2,.ptr 0 0),(3,.num .i64 0),(4,.num .i64 0),(5,.ptr 1 0),(6,.ptr 2 0),(7,Qvo x.r)],[],λx=>[(0,.cells [.dF,.dF] 88 false),(1,.cells [.own 3 4 (ag x.c),.bool false] 228 false),(2,.cells [.dF,.grow 5 x.s 4] 88 false),(3,.arr 8 x.c 203 false),vw 4],5,Ϫ y,λx=>y.length-x.r⟩)],[],1,[]⟩
def Wm (y:(List Nd)×Int):Prop:=let a:=lD y;let q1:=a.ae;let c:=gt (Nd.mk 0 [] 0 0 false 0 0) y.1 y.2.toNat;let g:=λp:Prop=>aa ([0]:List Int) (aa ([[]]:List (List (Int×Int))) (aa ([0,0]:List Int) p));let h:=λp:Prop=>aa ([0,0]:List Int) (aa ([[]]:List (List ah)) p);let i:=λp:Prop=>aa [a.op] (aa [a.r] (aa [a.mn,a.mx] (aa [a.lz] (aa [a.cap,a.nk] p))));aG 0 y.2/\aw y.2 (ag y.1)/\(∃z:Nat,aa [y.1] (ay .i64 y.2 1=OH y z/\0=(z:Int)/\c.op=a.op/\c.r=a.r/\c.mn=a.mn/\c.mx=a.mx/\c.lz=a.lz/\c.cap=a.cap/\c.ae=a.nk/\[]=List.take z q1/\g (false=false/\h ((Iv (z<=q1.length))))))/\(∀x:Nat,let e:=OH y x;let b:=lD (y.1,e);let f:=q1.length;let j:=aw (x:Int) a.nk;let d:=bM (List.take x q1) [ah.mk b.op b.r b.mn b.mx b.lz b.cap b.nk b.ae];(Iv (x<=f))->aj j (Iv (RdP (y.1,e)/\dm b<dm a)/\aa [y.1] (aa [e] (bJ (ag d) 96/\∃z:Nat,aa [y.1] (Wl (y.1,e)=OH y z/\ay .i64 (x:Int) 1=(z:Int)/\i (d=List.take z q1/\g (false=false/\h ((Iv (z<=f/\(f-z)<(f-x)))))))))) (i (List.take x q1=q1/\e=Wl y/\True)))
def ϫ:∀y,Wm y=QsP y:=λy=>by kernel_rfl
def Wn (y:List (List Nd)):Prop:=let h:=(bZ y).2.2;let q1:=(bZ y).2.1;aj (aw 8 (ag y)) ([]=(bZ y).1.1/\[]=(bZ y).1.2/\13=q1/\8=h/\True) ((∃z:DcX,aa [y] (0=((z.r:Nat):Int)/\[]=z.s/\0=ag z.c/\false=false/\[]=z.c/\(Iv (Ϫ y z))))/\(∀x:DcX,let b:=((x.r:Nat):Int);let j:=bM x.s [ag x.c];let e:=gt [] y b.toNat;let a:=lD (e,0);let i:=(bH (dr.mk x.c false) (aW.mk 4 0 0 [])).1;let f:=(i,ah.mk a.op a.r a.mn a.mx a.lz a.cap a.nk a.ae);let k:=ag (eC f).af;let g:=(bH (eC f) (aW.mk 4 1 0 [])).1;let d:=(bH g (aW.mk 7 b 0 [])).1;(Iv (Ϫ y x))->aj (aw b (ag y)) (aG 0 b/\aw b (ag y)/\Iv (cE e)/\aa [e] (aj (!(dS e)) ([]=(bZ y).1.1/\[]=(bZ y).1.2/\1=q1/\b=h/\True) (bJ (ag j) 8/\aa [x.s] (aa [ag x.c] (aG 0 b/\aw b (ag y)/\Iv (RdP (e,0))/\aa [e] (aa ([0]:List Int) (Iv (x.c.length<=400)/\aa ([4,0,0]:List Int) (aa ([[]]:List (List (Int×Int))) (aa [ag x.c] (false=false/\aa [x.c] (Iv (CZ f)/\aa [a.op] (aa [a.r] (aa [a.mn,a.mx] (aa [a.lz] (aa [a.cap,a.nk] (aa [a.ae] (aa [ag i.af] (aa [i.bU] (aa [i.af] (Iv ((eC f).af.length<=400)/\aa ([4,1,0]:List Int) (aa ([[]]:List (List (Int×Int))) (aa [k] (aa [(eC f).bU] (aa [(eC f).af] (Iv (g.af.length<=400)/\aa ([7,b,0]:List Int) (aa ([[]]:List (List (Int×Int))) (aa [ag g.af] (aa [g.bU] (aa [g.af] (aj d.bU ([]=(bZ y).1.1/\[]=(bZ y).1.2/\12=q1/\b=h/\True) (∃z:DcX,aa [y] (ay .i64 b 1=((z.r:Nat):Int)/\j=z.s/\ag d.af=ag z.c/\d.bU=false/\d.af=z.c/\(Iv (Ϫ y z/\(y.length-z.r)<(y.length-x.r))))))))))))))))))))))))))))))))))) (x.c=(bZ y).1.1/\x.s=(bZ y).1.2/\0=q1/\0=h/\True)))
theorem C3 {l r:List Nd} {a:Nat} {t:ah} (h:ku t) (e:l.drop a=aD t++r):lD (l,(a:Int))=t:=by
 grind [lD,ki]
theorem QsS (y:List Nd×Int) (s:Jm.pre y):Wm y:=by
 obtain⟨l,i⟩:=y;obtain⟨h0,h1,t,r,m,d⟩:=s;obtain⟨a,rfl⟩:=Zau h0;simp only[Zad] at h1 d;have j:=C3 m d;have f:∀i t,lD (l,i)=t->Wl (l,i)=i+(aD t).length:=λi t h=>by grind [Wl,aC]
 have n:∀k,OH (l,(a:Int)) k=((fO t a k:Nat):Int):=λk=>by grind [OH,fO,aC]
 obtain⟨w,u,z⟩:=qt d;have wf:=(iQ t).mp m;have q:=FA t.ae;have o:(aD t).length=(aA t.ae).length+1:=by rw[bT];simp
 unfold Wm;have p:gt (Nd.mk 0 [] 0 0 false 0 0) l a=⟨t.op,t.r,t.mn,t.mx,t.lz,t.cap,t.ae.length⟩:=u;simp only[j,f _ _ j,n,Zad,p];simp only[bC,fm,dA,hU,au,aT,br,bR];refine⟨ω,ω,⟨0,by grind [ky],rfl,wf.2.1.symm,rfl,Zaj _⟩,λx v=>⟨λe=>?_,λe=>?_⟩⟩
 ·rw[wf.2.1] at e;have c:x<t.ae.length:=ω;have hk:=wi d c;have b:=wf.2.2.mem c;have g:=C3 (a:=fO t a x) b hk;rw[f _ _ g,g];refine⟨⟨⟨ω,h1,_,_,b,by assumption⟩,iP c⟩,?_,x+1,by grind [Bm],bK ω,(cq bF c).symm,ω,ω⟩;grind
 ·grind [fO]
def QkZ:Ok Jm:=RC (λy=>dm (lD y)) ϫ trivial QsS
theorem ϭ {t:ah} (h:ku t) (r:Nat):Fit (λs=>(bH (bH (i_ t (bH s ⟨4,0,0,[]⟩).1) ⟨4,1,0,[]⟩).1 ⟨7,r,0,[]⟩).1) (qF t r) (bt t+3):=by
 have F:=(((l6 ⟨4,0,0,[]⟩).then (Wj t h)).then (l6 ⟨4,1,0,[]⟩)).then (l6 ⟨7,r,0,[]⟩);rw[show 1+bt t+1+1=bt t+3 by omega] at F;have:(λn=>[(⟨4,0,0,[]⟩:aW)]++bS t (n+1)++[⟨4,1,0,[]⟩]++[⟨7,(r:Int),0,[]⟩])=qF t r:=funext λn=>by grind [qF]
 grind
theorem QsT (y:List (List Nd)) (o:Jn.pre y):Wn y:=by
 obtain⟨h1,k⟩:y.length<=1000000/\∀l∈y,∀x∈l,iO x:=o;have f:bZ y=IN y:=by grind [bZ,aC]
 have j:∀s t,eC (s,t)=i_ t s:=λs t=>by grind [eC,aC]
 unfold Wn;simp only[bL,bC,au,dq,br,Zad,aT,Zan,Zao,bR,j];unfold IN at f;refine⟨λe=>?_,λe=>?_⟩
 ·grind
 ·rw[Zaa ω] at f;refine⟨⟨⟨[],[],0⟩,rfl,rfl,rfl,rfl,Zaj _,ω,Zaj _,rfl,f.symm⟩,λx i=>?_⟩;obtain⟨c,s,r⟩:=x;obtain⟨i1,i2,i3,i4,i5⟩:=i;simp only at i1 i3 i4 i5 ⊢;refine⟨λe2=>?_,λe2=>?_⟩
  ·have v:r<y.length:=ω;have n:y.drop r=y.getD r []::y.drop (r+1):=by simp_all
   have b:cE (y.getD r []):=k _ (by grind);rw[n,ni] at i5;generalize y.getD r []=l at*
   refine⟨ω,e2,b,λh=>?_,λh=>?_⟩
   ·grind
   ·rw[Zaa (by grind)] at i5;obtain⟨t,d,w,u⟩:=jl h;have h0:l.drop 0=aD t++[]:=by grind
    have ht:rC l=t:=by
     grind [ki,rC]
    have m:lD (l,0)=t:=C3 (a:=0) d h0;rw[ht] at i5;rw[m];have hl:(aD t).length<=480:=by grind
    have hw:F8 t:=⟨⟨ω,λx i=>b x (by grind)⟩,d⟩;have F:=ϭ d r;have p1:=(eU ⟨c,false⟩ ⟨4,0,0,[]⟩).1;have p:=l5 t (bH ⟨c,false⟩ ⟨4,0,0,[]⟩).1;have q1:=(eU (i_ t (bH ⟨c,false⟩ ⟨4,0,0,[]⟩).1) ⟨4,1,0,[]⟩).1;have m1:=p1.max i3;have m2:=p.max m1;refine⟨by grind,ω,e2,⟨ZaQ _,u,t,[],d,h0⟩,i3,⟨m1,hw⟩,m2,q1.max m2,λq=>?_,λq=>?_⟩
    ·by_cases g:c.length+(bt t+3)<=400
     ·have:=F.ok c g;grind
     ·grind
    ·by_cases g:c.length+(bt t+3)<=400
     ·have hk:=F.ok c g;rw[Zaa ω] at i5;rw[hk];refine⟨⟨c++qF t r c.length,s++[(c.length:Int)],r+1⟩,bK ω,rfl,rfl,rfl,rfl,⟨by assumption,i2,by simp only[Zab,F.len];omega,by simp[i4],i5⟩,by grind⟩
     ·have:=F.no c i3 ω;grind
  ·grind [ni]
def Qk0:Ok Jn:=okZ [N0,Jm,zQ,Jl] f81 QsQ ⟨Qcu ri,QkZ,LK,QsM .n⟩ QsT
def Ϯ:bh D:=bO 80 (List Nd) ZE oy (λy=>[.list 7 y]) λy=>.list 7 (lk (cP y))
def ruO (n:Nat) (y:cj) (l:LdR):Nat×AO D.E:=(n,.cells [.list 3 y.r,.str y.c,.list 8 l.af,.list 5 l.st,.list 8 l.cc,.list 5 l.cs,.bool (!seq y.c [])] 90 false)
def C4:bh D:=⟨29,cj×Bool,CO oK,qG,λy=>[CM y.1],λ_=>[],
 λy=>match y.2 with
  | true=>.tuple [.ptr 0 0,Qvo 0,Qvo 0]
  | false=>.tuple [.fT,Qvo (b9 y.1).an,Qvo (b9 y.1).at_],
 λy=>match y.2 with
  | true=>[ruO 0 y.1 (b9 y.1)]
  | false=>[],0,1⟩
def dsO (y:cj):Nat×AO D.E:=(0,.cells [.list 3 y.r,.str y.c] 24 false)
def oc (y:cj) (x:List (List Nd)×Nat):Prop:=y.r.length<=8/\∃t,(∀k,jM t k=(y.r.take x.2).any λp=>decide (p.name=k))/\yI y ⟨t,x.1,x.2⟩
def tW (y:cj):List Nd:=lk (if y.c≠[] then cP (cm y.c).1 else[])
def Qk1 (y:C4.Y):cH D:=⟨[],[],[(250,⟨List (List Nd)×Nat,[5],λx=>[(1,.ptr 0 0),(6,.grow 9 x.1 1),(7,Qvo x.2)],[],λ_=>[dsO y.1,(1,.tok 9 138)],2,oc y.1,λx=>y.1.r.length-x.2⟩)],
 [(1023,⟨Unit,[5],λ_=>[(1,.ptr 0 0),(6,.list 9 (bs y.1).out),(13,.ptr 1 0),(14,.list 7 (tW y.1))],[],λ_=>[dsO y.1,ruO 1 y.1 (LB 0 0)],2,λ_=>(bs y.1).an=0/\y.1.r.length<=8/\(y.1.c≠[]->(cm y.1.c).2.1=0),λ_=>0⟩)],1,
 [(128154,⟨List (List Nd)×Nat,λx=>{ X:=Nat,aO:=[5,7],sl:=λk=>[(1,.ptr 0 0),(6,.grow 9 x.1 1),(8,.ptr 2 0),(9,Qvo k)],kp:=[],pc:=λ_=>[dsO y.1,(1,.tok 9 138),(2,.cells [.str (y.1.r.getD x.2 ⟨[],[]⟩).name,.str (y.1.r.getD x.2 ⟨[],[]⟩).text] 77 false)],nx:=3,inv:=λk=>k<=x.2/\x.2<y.1.r.length/\oc y.1 x/\∀j,j<k->(y.1.r.getD j ⟨[],[]⟩).name≠(y.1.r.getD x.2 ⟨[],[]⟩).name,me:=λk=>x.2-k },none⟩)]⟩
def Jo (y:cj):Prop:=let i:=bZ (bs y).out;let q1:=y.r.length;let e:=ag y.r;let m:=!(seq y.c []);let n:=([tW y]:List (List Nd));let t:=(cm y.c).1;let w:=!(aB (cm y.c).2.1 0);let A:=!(aB (bZ n).2.1 0);let v:=λp:Prop=>RAA (RA4 y p);let u:=λp:Prop=>RA4 y p;let B:=Iv ((bs y).an=0/\q1<=8/\((Ne (y,true).1.c [])->(cm y.c).2.1=0));let k:Prop:=(RA4 y (RAD (RAE (RAD (RAE (RAG m (RA4 y (B))))))));let F:=λj:Nat=>List.getD y.r j (iX.mk [] []);aj (aw 8 e) (False) ((∃z:(List (List Nd))×Nat,RAG e ([]=z.1/\0=(z.2:Int)/\u ((Iv (oc y z)))))/\(∀x:(List (List Nd))×Nat,let b:=(x.2:Int);let g:=gt (iX.mk [] []) y.r b.toNat;(Iv (oc y x))->aj (aw b e) (aG 0 b/\aw b e/\Iv True/\RAG g.name (aj (!(iZ g.name)) (False) (∃z:(List (List Nd))×Nat,let a:=List.getD y.r z.2 (iX.mk [] []);let h:=(cm a.text).1;let o:=!(aB (cm a.text).2.1 0);let l:=bM z.1 [lk (cP h)];(∃d:Nat,aa [e,b] (x.1=z.1/\0=(d:Int)/\g.name=a.name/\g.text=a.text/\u ((Iv (d<=z.2/\z.2<q1/\oc y z/\(∀j:Nat,(Nat.le (Nat.succ j) d)->Ne (F j).name a.name))))))/\(∀f:Nat,let q:=aw (f:Int) b;let s:=seq (gt (iX.mk [] []) y.r (f:Int).toNat).name a.name;(Iv (f<=z.2/\z.2<q1/\oc y z/\(∀j:Nat,(Nat.le (Nat.succ j) f)->Ne (F j).name a.name)))->aj q (aG 0 (f:Int)/\aw (f:Int) e/\aa [y.r] (aa [(gt (iX.mk [] []) y.r (f:Int).toNat).name,a.name] (aj s (False) (∃d:Nat,aa [e,b] (aa [z.1] (ay .i64 (f:Int) 1=(d:Int)/\aa [a.name,a.text] (aa [y.r] (aa [y.c] ((Iv ((d<=z.2/\z.2<q1/\oc y z/\(∀j:Nat,(Nat.le (Nat.succ j) d)->Ne (F j).name a.name))/\(z.2-d)<(z.2-f)))))))))))) (Iv True/\aa [a.text] (aj o (False) (Iv (oy h)/\aa [h] (bJ (ag l) 24/\∃d:(List (List Nd))×Nat,aa [e] (l=d.1/\ay .i64 b 1=(d.2:Int)/\u ((Iv (oc y d/\(q1-d.2)<(q1-x.2))))))))))))) (bJ e 32/\RAG y.r ((aj m (Iv True/\aa [y.c] (aj w (False) (Iv (oy t)/\aa [t] (∃z:Unit,aa [e] (x.1=(bs y).out/\lk (cP t)=tW y/\k))))) (∃z:Unit,aa [e] (x.1=(bs y).out/\[]=tW y/\k)))/\(∀f:Unit,B->Iv (pJ (bs y).out)/\aa [(bs y).out] (aj (!(aB i.2.1 0)) (False) (aj m (Iv (pJ n)/\aa [n] (aj A (False) (v (i.1.1=(b9 y).af/\i.1.2=(b9 y).st/\(bZ n).1.1=(b9 y).cc/\(bZ n).1.2=(b9 y).cs/\aa [m] (True))))) (v (i.1.1=(b9 y).af/\i.1.2=(b9 y).st/\[]=(b9 y).cc/\[]=(b9 y).cs/\aa [m] (True))))))))))
def Jp (y:cj):Prop:=let d:=ag y.r;let q1:=y.r.length;let q:=!(seq y.c []);let l:=([tW y]:List (List Nd));let s:=(cm y.c).1;let m:=(cm y.c).2.1;let t:=(bZ (bs y).out).2;let w:=!(aB (bZ l).2.1 0);let u:=λp:Prop=>RA4 y p;let A:=Iv ((bs y).an=0/\q1<=8/\((Ne (y,false).1.c [])->m=0));let v:Prop:=(RA4 y (RAD (RAE (RAD (RAE (RAG q (RA4 y (A))))))));let B:=λj:Nat=>List.getD y.r j (iX.mk [] []);aj (aw 8 d) (13=(b9 y).an/\8=(b9 y).at_/\True) ((∃z:(List (List Nd))×Nat,RAG d ([]=z.1/\0=(z.2:Int)/\u ((Iv (oc y z)))))/\(∀x:(List (List Nd))×Nat,let b:=(x.2:Int);let g:=gt (iX.mk [] []) y.r b.toNat;(Iv (oc y x))->aj (aw b d) (aG 0 b/\aw b d/\Iv True/\RAG g.name (aj (!(iZ g.name)) (14=(b9 y).an/\b=(b9 y).at_/\True) (∃z:(List (List Nd))×Nat,let a:=List.getD y.r z.2 (iX.mk [] []);let h:=(cm a.text).1;let i:=(cm a.text).2.1;let k:=bM z.1 [lk (cP h)];(∃e:Nat,aa [d,b] (x.1=z.1/\0=(e:Int)/\g.name=a.name/\g.text=a.text/\u ((Iv (e<=z.2/\z.2<q1/\oc y z/\(∀j:Nat,(Nat.le (Nat.succ j) e)->Ne (B j).name a.name))))))/\(∀f:Nat,let n:=aw (f:Int) b;let o:=seq (gt (iX.mk [] []) y.r (f:Int).toNat).name a.name;(Iv (f<=z.2/\z.2<q1/\oc y z/\(∀j:Nat,(Nat.le (Nat.succ j) f)->Ne (B j).name a.name)))->aj n (aG 0 (f:Int)/\aw (f:Int) d/\aa [y.r] (aa [(gt (iX.mk [] []) y.r (f:Int).toNat).name,a.name] (aj o (8=(b9 y).an/\b=(b9 y).at_/\True) (∃e:Nat,aa [d,b] (aa [z.1] (ay .i64 (f:Int) 1=(e:Int)/\aa [a.name,a.text] (aa [y.r] (aa [y.c] ((Iv ((e<=z.2/\z.2<q1/\oc y z/\(∀j:Nat,(Nat.le (Nat.succ j) e)->Ne (B j).name a.name))/\(z.2-e)<(z.2-f)))))))))))) (Iv True/\aa [a.text] (aj (!(aB i 0)) (i=(b9 y).an/\b=(b9 y).at_/\True) (Iv (oy h)/\aa [h] (bJ (ag k) 24/\∃e:(List (List Nd))×Nat,aa [d] (k=e.1/\ay .i64 b 1=(e.2:Int)/\u ((Iv (oc y e/\(q1-e.2)<(q1-x.2))))))))))))) (bJ d 32/\RAG y.r ((aj q (Iv True/\aa [y.c] (aj (!(aB m 0)) (m=(b9 y).an/\d=(b9 y).at_/\True) (Iv (oy s)/\aa [s] (∃z:Unit,aa [d] (x.1=(bs y).out/\lk (cP s)=tW y/\v))))) (∃z:Unit,aa [d] (x.1=(bs y).out/\[]=tW y/\v)))/\(∀f:Unit,A->Iv (pJ (bs y).out)/\aa [(bs y).out] (aj (!(aB t.1 0)) (t.1=(b9 y).an/\t.2=(b9 y).at_/\True) (aj q (Iv (pJ l)/\aa [l] (aj w ((bZ l).2.1=(b9 y).an/\d=(b9 y).at_/\True) (False))) (False))))))))
abbrev pN:iX:=⟨[],[]⟩
theorem ϯ {t:List Row} {n:By} {v:Int} (h:jM t n=false) (k:By):jM (rD t n v) k=(jM t k||decide (n=k)):=by
 grind [LI,jM,List.take_append_drop]
theorem FF {y:cj} {x:List (List Nd)×Nat} (h:oc y x) (m:x.2<y.r.length):
  (iZ (y.r.getD x.2 pN).name=false->(bs y).an=14/\(bs y).at_=x.2)/\
  (iZ (y.r.getD x.2 pN).name->(∃j,j<x.2/\(y.r.getD j pN).name=(y.r.getD x.2 pN).name)->(bs y).an=8/\(bs y).at_=x.2)/\
  (iZ (y.r.getD x.2 pN).name->(∀j,j<x.2->(y.r.getD j pN).name≠(y.r.getD x.2 pN).name)->((cm (y.r.getD x.2 pN).text).2.1≠0->(bs y).an=(cm (y.r.getD x.2 pN).text).2.1/\(bs y).at_=x.2)/\
   ((cm (y.r.getD x.2 pN).text).2.1=0->oc y (x.1++[cP (cm (y.r.getD x.2 pN).text).1],x.2+1))):=by
 obtain⟨h1,t,f,g⟩:=h;obtain⟨c,d,s3⟩:=yO g m;simp only at c d s3;have ht:∀k,jM t k↔∃j,j<x.2/\(y.r.getD j pN).name=k:=λk=>by
  rw[f,ZcT];constructor
  ·rintro⟨p,l,e⟩;obtain⟨j,b,rfl⟩:=Za3 l;rw[Zar] at b;refine⟨j,ω,?_⟩;grind
  ·rintro⟨j,b,e⟩;rw[eL ω] at e;exact⟨y.r[j],List.mem_iff_getElem.mpr ⟨j,by grind,by grind⟩,by grind⟩
 refine⟨c,λa e2=>d a ((ht _).mpr e2),λa e2=>?_⟩;have i:jM t (y.r.getD x.2 pN).name=false:=by
  grind
 obtain⟨n,o⟩:=s3 a i;refine⟨n,λe=>⟨h1,_,λk=>?_,o e⟩⟩;grind [ϯ,cq]
theorem Qk4 (y:cj) (b:Bool) (O:C4.pre (y,b)):(b->Jo y)/\(b=false->Jp y):=by
 obtain⟨hl,S⟩:y.r.length<=1000/\b=oK y:=O;have I:b9 y=jm y:=by grind [b9,aC]
 have C:y.c≠[]->tW y=cP (cm y.c).1:=λh=>by grind [tW,aC]
 have z:y.c=[]->tW y=[]:=λh=>by grind [tW,aC]
 have E:b↔(jm y).an=0:=by grind [oK]
 have J:∀{s:By},seq s []=false↔s≠[]:=λ{s}=>by grind
 obtain⟨Q,U⟩:(∀x∈(bs y).out,cE x)/\(bs y).out.length<=y.r.length:=by
  grind [wo,bs,aC]
 have L:pJ (bs y).out:=⟨ω,Q⟩;have P:cE (tW y):=by
  by_cases h:y.c=[]
  ·grind [eQ]
  ·grind [wm,ma]
 have H:pJ [tW y]:=⟨by simp,λl hl=>by rw[List.mem_singleton.mp hl];exact P⟩;have G:8<y.r.length->jm y=LB 13 8:=λh=>by grind [jm]
 have hz:y.r.length<=8->oc y ([],0):=λh=>⟨h,[],λk=>rfl,Zaj _,List.Pairwise.nil,Zah _,rfl,by grind [bs,aC]⟩
 have p:∀x:List (List Nd)×Nat,oc y x->¬x.2<y.r.length->x.1=(bs y).out/\(bs y).an=0:=λx f e=>by
  obtain⟨_,t,_,i1,_,_,_,i5⟩:=f;grind [l3]
 have hlen:∀x:List (List Nd)×Nat,oc y x->x.1.length=x.2:=λx f=>by
  obtain⟨_,t,_,_,_,_,i4,_⟩:=f;exact i4
 have K:∀n,gt (iX.mk [] []) y.r n=y.r.getD n pN:=λ_=>rfl
 have A:∀n,y.r.getD n (iX.mk [] [])=y.r.getD n pN:=λ_=>rfl
 constructor
 ·intro N;have h0:=E.mp N;unfold Jo;rw[I];simp only[bL,bC,au,aT,br,xJ,J,K,A,Zad,Zan,Zao,aC,ZaY,ZaZ];refine⟨λD=>?_,λD=>⟨⟨([],0),rfl,rfl,hz ω⟩,λx f=>⟨λe=>?_,λe=>?_⟩⟩⟩
  ·rw[G ω] at h0;cases h0
  ·have w:x.2<y.r.length:=ω;obtain⟨M,F,s3⟩:=FF f w;have V:(bs y).an=0:=Zch λh=>by rw[VW ω h] at h0;exact h h0
   refine⟨ω,e,λq=>?_,λq=>⟨x,⟨0,rfl,rfl,rfl,rfl,Zaj _,w,f,λj g=>absurd g (Zbo _)⟩,λk hk=>?_⟩⟩
   ·grind
   ·obtain⟨k1,k2,k3,k4⟩:=hk;refine⟨λek=>⟨ω,ω,λi=>?_,λi=>⟨k+1,bK ω,⟨ω,w,f,λj g=>?_⟩,ω⟩⟩,λek=>⟨λi=>?_,λi=>⟨ma _,?_,(x.1++[cP (cm (y.r.getD x.2 pN).text).1],x.2+1),rfl,bK ω,?_,show y.r.length-(x.2+1)<y.r.length-x.2 by omega⟩⟩⟩
    ·have:=(F q ⟨k,ω,i⟩).1;omega
    ·grind
    ·grind
    ·grind
    ·grind
  ·obtain⟨B,m⟩:=p x f ω;refine⟨ω,⟨λd=>⟨λu=>?_,λu=>⟨ma _,B,(C d).symm,m,ω,λ_=>u⟩⟩,λd=>⟨B,(z d).symm,m,ω,λh=>absurd d h⟩⟩,λg=>⟨L,λv=>?_,λv=>⟨λd=>⟨H,λo=>?_,λo=>?_⟩,λd=>?_⟩⟩⟩
   ·rw[VX ω m d u] at h0;exact u h0
   ·rw[VY ω m g.2.2 v] at h0;exact v h0
   ·rw[C d] at o;rw[VZ ω m g.2.2 v d o] at h0;exact o h0
   ·grind [V0]
   ·grind [V1]
 ·intro R;have h0:(jm y).an≠0:=λh=>by grind
  unfold Jp;rw[I];simp only[bL,bC,au,aT,br,xJ,J,K,A,Zad,Zan,Zao,aC,ZaY,ZaZ];have an:∀{e a:Int},y.r.length<=8->(bs y).an=e/\(bs y).at_=a->e≠0->e=(jm y).an/\a=(jm y).at_:=λD h T=>by
   rw[VW ω ω,h.1,h.2];exact⟨rfl,rfl⟩
  refine⟨λD=>?_,λD=>⟨⟨([],0),rfl,rfl,hz ω⟩,λx f=>⟨λe=>?_,λe=>?_⟩⟩⟩
  ·rw[G ω];exact⟨rfl,rfl⟩
  ·have w:x.2<y.r.length:=ω;obtain⟨M,F,s3⟩:=FF f w;refine⟨ω,e,λq=>an ω (M q) (by decide),λq=>⟨x,⟨0,rfl,rfl,rfl,rfl,Zaj _,w,f,λj g=>absurd g (Zbo _)⟩,λk hk=>?_⟩⟩;obtain⟨k1,k2,k3,k4⟩:=hk;refine⟨λek=>⟨ω,ω,λi=>an ω (F q ⟨k,ω,i⟩) (by decide),λi=>⟨k+1,bK ω,⟨ω,w,f,λj g=>?_⟩,ω⟩⟩,λek=>⟨λi=>an ω ((s3 q λj g=>k4 j (show j<k by omega)).1 i) i,λi=>⟨ma _,?_,(x.1++[cP (cm (y.r.getD x.2 pN).text).1],x.2+1),rfl,bK ω,?_,show y.r.length-(x.2+1)<y.r.length-x.2 by omega⟩⟩⟩
   ·grind
   ·grind
   ·grind
  ·obtain⟨B,m⟩:=p x f ω;refine⟨ω,⟨λd=>⟨λu=>?_,λu=>⟨ma _,B,(C d).symm,m,ω,λ_=>u⟩⟩,λd=>⟨B,(z d).symm,m,ω,λh=>absurd d h⟩⟩,λg=>⟨L,λv=>?_,λv=>⟨λd=>⟨H,λo=>?_,λo=>?_⟩,λd=>?_⟩⟩⟩
   ·rw[VX ω m d u];exact⟨rfl,rfl⟩
   ·rw[VY ω m g.2.2 v];exact⟨rfl,rfl⟩
   ·rw[C d] at o ⊢;rw[VZ ω m g.2.2 v d o];exact⟨rfl,rfl⟩
   ·grind [V0]
   ·grind [V1]
def Qk5 (hs:Ok Ϯ):Ok C4:=Qo5 (k:=C4) (T:=Jo) (F:=Jp) [Ov,Iu,Ϯ,Jn] f29 Qk1 id id (λ_=>rfl) ⟨Qkg,QjB QeG (HB ri) (QeJ ri),hs,Qk0⟩ (λy a=>(Qk4 y true a).1 rfl) λy a=>(Qk4 y false a).2 rfl
mutual
def nrm:ah->ah
 | .mk op r mn mx lz cap _ ks=>.mk op r mn mx lz cap ks.length (od ks)
def od:List ah->List ah
 | []=>[]
 | t::l=>nrm t::od l
end
theorem gD (l:List ah):od l=l.map nrm:=by
 induction l with
 | nil=>simp[od]
 | cons a l b=>simp[od,b]
def jo (t:ah):nrm t=.mk t.op t.r t.mn t.mx t.lz t.cap t.ae.length (t.ae.map nrm):=by cases t;rw[nrm,gD];rfl
mutual
theorem yW:∀(t:ah) (m:Nat) (rest:List Nd),(aD t++rest).length<=m->fN m (aD t++rest)=some (nrm t,rest)
 | .mk op r mn mx lz cap nk ks,m,rest,hm=>by
  rw[aD] at hm ⊢
  simp only[Za1,Zae] at hm ⊢
  obtain⟨k,rfl⟩:∃k,m=k+1:=⟨m-1,ω⟩
  rw[fN]
  simp only[Zad]
  rw[Bt ks k rest ω,nrm]
theorem Bt:∀(l:List ah) (m:Nat) (rest:List Nd),(aA l++rest).length<=m->jI (fN m) l.length (aA l++rest)=some (od l,rest)
 | [],m,rest,_=>by simp[jI,aA,od]
 | t::l,m,rest,hm=>by
  rw[aA,ZaD] at hm ⊢
  rw[Zae,jI,yW t m _ hm]
  simp only
  rw[Bt l m rest (by simp only[Zab] at hm ⊢;omega),od]
end
mutual
theorem yX:∀t:ah,aD (nrm t)=aD t
 | .mk op r mn mx lz cap nk ks=>by rw[nrm,aD,aD,qz ks,gD,Za2]
theorem qz:∀l:List ah,aA (od l)=aA l
 | []=>by rw[od]
 | t::l=>by rw[od,aA,aA,yX t,qz l]
end
theorem yY (a b:ah):aD a=aD b↔nrm a=nrm b:=by
 constructor
 ·intro h;have h1:=yW a (aD a).length [] (by simp);grind [yW]
 ·grind [yX]
theorem LU (a b:ah):vD a b↔nrm a=nrm b:=by
 grind [vD,aC,yY]
mutual
theorem LV:∀a b:ah,UJ a b=true↔nrm a=nrm b
 | .mk op r mn mx lz cap nk ks,b=>by
  rw[UJ,nrm,jo b]
  simp only[ZaW,Zb7,ZaP,ah.mk.injEq,<-gD]
  constructor
  ·rintro⟨⟨⟨⟨⟨⟨⟨h1,h2⟩,h3⟩,h4⟩,h5⟩,h6⟩,h7⟩,h8⟩
   exact⟨h1,h6,h2,h3,h4,h5,ω,(yZ ks b.ae h7).mp h8⟩
  ·rintro⟨h1,h6,h2,h3,h4,h5,h7,h8⟩
   have h7:ks.length=b.ae.length:=ω
   exact⟨⟨⟨⟨⟨⟨⟨h1,h2⟩,h3⟩,h4⟩,h5⟩,h6⟩,h7⟩,(yZ ks b.ae h7).mpr h8⟩
theorem yZ:∀l m:List ah,l.length=m.length->(sJ l m=true↔od l=od m)
 | [],m,h=>by
  cases m with
  | nil=>simp[sJ,od]
  | cons b m=>cases h
 | a::l,m,h=>by
  cases m with
  | nil=>cases h
  | cons b m=>
   rw[sJ,od,od,ZaW,LV a b,yZ l m (by simpa using h),List.cons.injEq]
end
theorem LW (a b:ah):ow a b↔nrm a=nrm b:=by
 unfold ow;rw[aC,LV]
theorem ϰ (a b:ah):vD a b=ow a b:=by grind [LU,LW]
theorem sV:∀(l s o:List ah),(∀k,s.any (λx=>ow x k)=o.any (λx=>ow x k))->eo o l=o++e_ s l
 | [],s,o,_=>by grind [eo,e_]
 | k::l,s,o,h=>by
  rw[eo,e_];have b:(λx=>vD x k)=λx=>ow x k:=funext λx=>ϰ x k
  rw[b];by_cases c:s.any (λx=>ow x k)
  ·rw[Zac c,Zac (by simp_all)];refine sV l (s++[k]) o λa=>?_
   rw[Zca,h];simp only[ZdX,List.any_nil,Zdh];cases hk:ow k a with
   | false=>rw[Zdh]
   | true=>
    rw[Bool.or_true];symm;rw[h] at c;grind [LW]
  ·rw[Zaa c,Zaa (by simp_all),sV l (s++[k]) (o++[k]) λa=>by simp_all];simp
def wv (l:List ah):wq l=j6 l:=by
 unfold wq j6;rw[sV l [] [] λ_=>rfl,Zcb]
theorem sW:∀(l o:List ah),(bI o l).length=o.length+l.length->bI o l=o++l
 | [],o,_=>by grind [bI]
 | k::l,o,h=>by
  rw[bI] at h ⊢;have h1:(dL o k).length<=o.length+1:=jk o k;have b:∀(l o:List ah),(bI o l).length<=o.length+l.length:=λl=>by
   induction l with
   | nil=>intro o;rw[bI];exact Zah _
   | cons a l c=>intro o;rw[bI];have:=c (dL o a);have:=jk o a;simp only[Zae];omega
  have d:=b l (dL o k);simp only[Zae] at h;rw[sW l (dL o k) ω];grind [dL]
theorem OI {l:List ah} (h:(j6 l).length=l.length):j6 l=l:=by
 unfold j6 at h ⊢;have e:eo [] l=e_ [] l:=by grind [sV]
 rw[e] at h ⊢;have s:=n9 l [];have c:=s.length_le;have d:(bI [] (e_ [] l)).length<=(e_ [] l).length:=by
  have:∀(l o:List ah),(bI o l).length<=o.length+l.length:=λl=>by
   induction l with
   | nil=>intro o;rw[bI];exact Zah _
   | cons a l b=>intro o;rw[bI];have:=b (dL o a);have:=jk o a;simp only[Zae];omega
  grind
 grind [sW]
theorem ϱ (l:List ah):(j6 l).length<=l.length:=by
 rw[<-wv];unfold wq;have:∀(l o:List ah),(bI o l).length<=o.length+l.length:=λl=>by
  induction l with
  | nil=>intro o;rw[bI];exact Zah _
  | cons a l b=>intro o;rw[bI];have:=b (dL o a);have:=jk o a;simp only[Zae];omega
 grind [n9]
theorem LX:∀(n:Nat) (l:List ah),l.length<=n->iV n l=jJ n l
 | 0,l,h=>by
  have:l=[]:=Zap ω;subst this;rfl
 | n+1,l,h=>by
  rw[iV,jJ,wv];have:=ϱ l;by_cases c:(j6 l).length=l.length
  ·grind [OI]
  ·rw[Zac ω,Zaa c];exact LX n _ ω
mutual
def eu:ah->Prop
 | .mk op _ _ _ _ _ _ ks=>(op=3->∀k∈ks,k.op≠1)/\(op=4->ks≠[])/\uO ks
def uO:List ah->Prop
 | []=>True
 | t::l=>eu t/\uO l
end
theorem Bu (l:List ah):uO l↔∀t∈l,eu t:=by
 induction l with
 | nil=>simp[uO]
 | cons a l b=>rw[uO,b];simp
theorem kz (t:ah):eu t↔(t.op=3->∀k∈t.ae,k.op≠1)/\(t.op=4->t.ae≠[])/\∀k∈t.ae,eu k:=by cases t;rw[eu,Bu];exact ZbW
noncomputable def byD (t:ah):ah:=if t.op=3 then Jb t else if t.op=4 then Je t else if t.op=5 then cV t else t
theorem Wq {l:List ah} (h:∀k∈l,eu k):ft l=hV (aF 3 l):=by
 unfold ft hV aF;rw[List.filter_flatMap];have:∀k∈l,(if k.op=1 then([]:List ah) else if k.op=3 then k.ae else[k])=List.filter (λt=>!wg t) (if k.op=3 then k.ae else[k]):=λk hk=>by
  grind [kz,List.filter_eq_self,wg]
 clear h
 induction l with
 | nil=>rfl
 | cons a l b=>rw[Zbt,Zbt,this a (by simp),b λk hk=>this k (by grind)]
end
end sx
end Go.Proofs.YtiiiphndmbabcaaGreat
