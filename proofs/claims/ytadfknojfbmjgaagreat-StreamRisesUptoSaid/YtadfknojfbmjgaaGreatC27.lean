/- StreamRises: a part of the proof. -/
import Derived.Test.YtadfknojfbmjgaaGreatC26
set_option linter.all false
namespace Go.Proofs.YtadfknojfbmjgaaGreat
set_option maxRecDepth 100000
set_option maxHeartbeats 4000000
namespace sx
noncomputable section
open Go Go.RowKit cls syn
theorem FC (l:List Tree):l.length<=(au l).length:=by
 induction l with
 | nil=>simp
 | cons a l b=>simp only[au,Zab,Zae];rw[bJ];simp;omega
theorem yh {y:Tree} (h:dG y) {x:Nat} (c:x<y.kids.length):dG (y.kids.getD x bn)/\ph y x++cW (y.kids.getD x bn)=ph y (x+1)/\(ph y (x+1)).length<=1000000:=by
 obtain⟨h1,a⟩:=h;have ht:=take_one bn c;have d:y.kids=y.kids.take x++(y.kids.getD x bn::y.kids.drop (x+1)):=by
  simp_all
 have b:au y.kids=au (y.kids.take x)++(ay (y.kids.getD x bn)++au (y.kids.drop (x+1))):=by
  grind [ct,au]
 have hs:au (y.kids.take (x+1))=au (y.kids.take x)++ay (y.kids.getD x bn):=by
  grind [ct,au]
 have hlen:=ZaR List.length b;simp only[Zab] at hlen;rw[bJ] at h1;simp only[Zae] at h1;unfold ph cW;rw[aq,aq,aq,hs];refine⟨⟨ω,λz hz=>a z ?_⟩,rfl,by grind⟩;grind [bJ]
theorem dG.few {y:Tree} (h:dG y):y.kids.length<=1000000:=by
 have:=FC y.kids;have h1:=h.1;grind [bJ]
theorem QsY (y:Tree) (a:Ja.pre y):VB y:=by
 have a:dG y:=a;have hk:=a.few;unfold VB;have b:∀n,gt (Tree.mk 0 [] 0 0 false 0 0 []) y.kids n=y.kids.getD n bn:=λ_=>rfl
 simp only[dq,dP,gf,gG,aj,aO,aU,b,bG,Zad];refine⟨⟨0,by unfold ph;rw[aq];rfl,rfl,Zaj _⟩,λx c=>⟨λe=>?_,λe=>?_⟩⟩
 ·obtain⟨k1,k2,k3⟩:=yh a (show x<y.kids.length by omega);rw[k2];exact⟨ω,e,⟨k1,gY ω⟩,ω,x+1,rfl,bz ω,ω,ω⟩
 ·grind [ph,cW,bJ]
def Qdb:Ok Ja:=OJ cZ Qaj trivial QsY
theorem QsZ (y:Tree×Tree) (M:N'.pre y):VC y:=by
 obtain⟨a,b⟩:=y;obtain⟨m,I⟩:dG a/\dG b:=M;have eS:vd a b=decide (ay a=ay b):=by grind [vd,aq]
 have F:∀i,FB (a,b) i↔(i<=(ay a).length/\(ay a).length=(ay b).length/\∀j,j<i->(ay a).getD j (nd 0)=(ay b).getD j (nd 0)):=λi=>by grind [FB,cW,aq]
 have G:∀i k,N_ (a,b) i k↔(FB (a,b) i/\i<(ay a).length/\({ (ay a).getD i (nd 0) with r:=[] }={ (ay b).getD i (nd 0) with r:=[] }/\((ay a).getD i (nd 0)).r.length=((ay b).getD i (nd 0)).r.length)/\k<=((ay a).getD i (nd 0)).r.length/\∀j,j<k->((ay a).getD i (nd 0)).r.getD j (0,0)=((ay b).getD i (nd 0)).r.getD j (0,0)):=λi k=>by unfold N_ cW;rw[aq,aq]
 have O:(ay a).length<=1000000:=m.1;have g:∀i,i<(ay a).length->((ay a).getD i (nd 0)).r.length<=1000000:=λi hi=>m.2 _ (by grind)
 unfold VC;have J:∀(l:List Nd) n,gt (Nd.mk 0 [] 0 0 false 0 0) l n=l.getD n (nd 0):=λ_ _=>rfl
 have o:∀(l:List Rg) n,gt (0,0) l n=l.getD n (0,0):=λ_ _=>rfl
 have C:∀{p q:Bool},sX p q↔p=q:=λ{p q}=>by simp[sX]
 have D:∀{p q:Bool},sX p q=false↔p≠q:=λ{p q}=>by grind
 have H:∀t:Tree,cW t=ay t:=λt=>by unfold cW;rw[aq]
 simp only[QaU,dq,aj,J,o,C,D,bG,Zad,Zan,Zao,ZaW,Zbz,H,F,G,eS];generalize ay a=A at*
 generalize ay b=B at*
 have ne:∀i,A.getD i (nd 0)≠B.getD i (nd 0)->false=decide (A=B):=λi h=>by
  grind
 refine⟨m,I,λhl=>?_,λhl=>⟨⟨0,rfl,Zaj _,ω,λj d=>absurd d (Zbo _)⟩,λx L=>⟨λe=>?_,λe=>?_⟩⟩⟩
 ·grind
 ·obtain⟨c1,c2,c3⟩:=L;have f:x<A.length:=ω;have c:(x:Int)<(B.length:Int):=ω;have x0:(0:Int)<=(x:Int):=ω;have P:=g x f;have ne:=ne x;generalize hu:A.getD x (nd 0)=u at*
  generalize z:B.getD x (nd 0)=v at*
  refine⟨x0,e,x0,c,λq=>ne λh=>q (by rw[h]),λQ=>⟨x0,e,x0,c,λq=>ne λh=>q (by rw[h]),λR=>⟨x0,e,x0,c,λq=>ne λh=>q (by rw[h]),λS=>⟨x0,e,x0,c,λq=>ne λh=>q (by rw[h]),λT=>⟨x0,e,x0,c,λq=>ne λh=>q (by rw[h]),λU=>⟨x0,e,x0,c,λq=>ne λh=>q (by rw[h]),λV=>⟨x0,e,x0,c,λq=>ne λh=>q (by rw[h]),λW=>?_⟩⟩⟩⟩⟩⟩⟩;have hw:({ u with r:=[] }:Nd)={ v with r:=[] }:=by grind
  have s:u.r.length=v.r.length:=ω;refine⟨x,⟨0,rfl,⟨c1,c2,c3⟩,f,⟨by grind,by grind⟩,Zaj _,λj d=>absurd d (Zbo _)⟩,λk hk=>?_⟩;obtain⟨_,_,_,E,w⟩:=hk;rw[hu] at E w;rw[z] at w;refine⟨x0,e,λek=>⟨x0,e,ω,ek,x0,c,ω,ω,λq=>ne λh=>?_,λq=>⟨k+1,bz ω,⟨⟨c1,c2,c3⟩,f,⟨by grind,ω⟩,by grind,λj d=>?_⟩,by grind⟩⟩,λek=>⟨x+1,bz ω,⟨ω,c2,λj d=>?_⟩,ω⟩⟩
  ·grind
  ·grind
  ·rcases Zbm j x with h | h
   ·exact c3 j h
   ·rw[show j=x by omega,hu,z];have K:u.r=v.r:=Zdx s λj h1 N=>by
     grind
    obtain⟨X,Y,Z,u4,u5,u6,u7⟩:=u;obtain⟨v1,v2,v3,v4,v5,v6,v7⟩:=v;grind
 ·grind [List.ext_getElem]
def Qlu:Ok N':=okZ [Ja] Tryz.f152 QsU Qdb QsZ
theorem Qs0 (y:Tree) (a:Jb.pre y):VD y:=by
 have a:dG y:=a;have hk:=a.few;have ge:=Tz y;unfold VD;have d:∀n,gt (Tree.mk 0 [] 0 0 false 0 0 []) y.kids n=y.kids.getD n bn:=λ_=>rfl
 simp only[QaU,dq,aj,d,bG,Zad];refine⟨λh=>by grind,λh=>⟨⟨0,rfl,Zaj _,λj c=>absurd c (Zbo _)⟩,λx f=>⟨λe=>?_,λe=>?_⟩⟩⟩
 ·have b:x<y.kids.length:=ω;obtain⟨k1,_,_⟩:=yh a b;refine⟨ω,e,⟨k1,gY b⟩,λq=>?_,λq=>⟨x+1,bz ω,⟨b,λj c=>?_⟩,ω⟩⟩
  ·grind
  ·grind
 ·grind [List.getElem_of_mem]
def Qlv:Ok Jb:=OJ cZ Qal trivial Qs0
abbrev ve (n:Nat) (t:Tree):Nat×AO D.E:=(n,.cells (D.aX 15 t) 147 false)
abbrev tkO (n:Nat):Nat×AO D.E:=(n,.tok 15 147)
variable {l:List Tree}
def Qlx (a:List (AV D.E)) (s:St D.E):C (List Tree):=match a with
 | [l]=>av (rowsOf D s 15 l) λl=>.ret (l:List Tree)
 | _=>.fail
def e_ (l:List Tree):List Tree:=l.flatMap λk=>if k.op=1 then[] else if k.op=3 then k.kids else[k]
def iQ (t:Tree) (a:List Tree):Tree:=.mk t.op t.r t.mn t.mx t.lz t.cap t.nk a
def Jc (t:Tree):Tree:=match e_ t.kids with
 | []=>.mk 1 [] 0 0 false 0 0 []
 | [k]=>k
 | a=>iQ t a
def Jd:bf D:=bZ 89 Tree (λa _=>uU a) (λy=>y.kids.length<=1000000/\(e_ y.kids).length<=1000000) (λy=>[.agg (D.aX 15 y)]) λy=>.agg (D.aX 15 (lk (Jc y)))
def Qs1 (y:Jd.Y):cH D:=⟨[],[],[(58,⟨Nat,[],λx=>[(1,.ptr 0 0),(2,.ptr 1 0),(3,.grow 15 (e_ (y.kids.take x)) 2),(4,Qu9 x)],[],λ_=>[ve 0 y,ve 1 bn,tkO 2],3,λx=>x<=y.kids.length,λx=>y.kids.length-x⟩)],[],1,[]⟩
def fa:List Tree->List Tree->List Tree
 | _,[]=>[]
 | s,k::l=>if s.any (λx=>vd x k)=true then fa (s++[k]) l else k::fa (s++[k]) l
def Oa:bf D:=bZ 124 (List Tree) Qlx dH (λy=>[.list 15 y]) λy=>.list 15 (lk (fa [] y))
def zk (y:List Tree) (x:List Tree×Nat):Prop:=x.2<=y.length/\x.1.length<=x.2/\x.1++fa (y.take x.2) (y.drop x.2)=fa [] y
def Je (y:List Tree) (i k:Nat):Bool:=lk ((y.take k).any λx=>vd x (y.getD i bn))
def Qs3 (y:Oa.Y):cH D:=⟨[],[],[(58,⟨List Tree×Nat,[0],λx=>[(3,.grow 15 x.1 0),(4,Qu9 x.2)],[],λ_=>[tkO 0],1,zk y,λx=>y.length-x.2⟩)],[],1,
 [(14922,⟨List Tree×Nat,λx=>⟨Nat,[0,4],λk=>[(3,.grow 15 x.1 0),(5,.bool (Je y x.2 k)),(6,Qu9 k)],[],λ_=>[tkO 0],1,λk=>k<=x.2/\x.2<y.length/\zk y x,λk=>x.2-k⟩,none⟩)]⟩
def Ob:bf D:=bZ 123 (List Tree) Qlx (λy=>y.length<=1000000/\tG y) (λy=>[.list 15 y]) λy=>.list 15 (bt [] y)
def Qs5 (y:Ob.Y):cH D:=⟨[],[8],[(58,⟨List Tree×Nat,[0],λx=>[(3,.own 0 8 (ab x.1)),(4,Qu9 x.2)],[],λx=>[(0,.arr 15 x.1 147 false)],1,sE y,λx=>y.length-x.2⟩)],[],1,[]⟩
def vS (l:List Tree):List Tree:=bt [] (fa [] l)
def hV:Nat->List Tree->List Tree
 | 0,l=>vS l
 | n+1,l=>if (vS l).length<l.length then hV n (vS l) else vS l
def Jf (t:Tree):Tree:=match hV (aw 4 t.kids).length (aw 4 t.kids) with
 | [k]=>k
 | a=>iQ t a
def Jg:bf D:=bZ 90 Tree (λa _=>uU a) (λy=>y.kids.length<=1000000/\dH (aw 4 y.kids)) (λy=>[.agg (D.aX 15 y)]) λy=>.agg (D.aX 15 (lk (Jf y)))
def Qs7 (y:Jg.Y):cH D:=⟨[],[],[(58,⟨Nat,[],λx=>[(1,.ptr 0 0),(2,.ptr 1 0),(3,.grow 15 (aw 4 (y.kids.take x)) 2),(5,Qu9 x)],[],λ_=>[ve 0 y,ve 1 bn,tkO 2],3,λx=>x<=y.kids.length/\(aw 4 (y.kids.take x)).length<=1000000,λx=>y.kids.length-x⟩),
 (124,⟨List Tree,[],λx=>[(1,.ptr 0 0),(2,.ptr 1 0),(3,.list 15 x),(4,.list 15 (lk (vS x)))],[],λ_=>[ve 0 y,ve 1 bn],2,λx=>dH x/\x.length<=(aw 4 y.kids).length/\hV x.length x=hV (aw 4 y.kids).length (aw 4 y.kids),λx=>x.length⟩)],[],1,[]⟩
def Qs9 (y:Tree):Prop:=Z0 y/\y.op=5
def Jh:bf D:=bZ 91 Tree (λa _=>uU a) Qs9 (λy=>[.agg (D.aX 15 y)]) λy=>.agg (D.aX 15 (lk (cJ y)))
def Qta (y:Jh.Y):cH D:=⟨[],[],[],[(7,⟨Unit,[],λ_=>[(1,.ptr 0 0),(2,.ptr 1 0),(3,.ptr 2 0)],[],λ_=>[ve 0 (uV y),ve 1 bn,ve 2 (bs y)],3,λ_=>True,λ_=>0⟩)],1,[]⟩
def VE (y:Tree):Prop:=let a:=lk (Jc y);let d:=y.kids;let c:=d.length;let h:=λp:Prop=>aa ([0]:List Int) (aa ([[]]:List (List (Int×Int))) (aa ([0,0]:List Int) p));let i:=λp:Prop=>aa ([0,0]:List Int) (aa ([[]]:List (List Tree)) (aa [y.op] (aa [y.r] (aa [y.mn,y.mx] (aa [y.lz] (aa [y.cap,y.nk] (aa [d] p)))))));(∃z:Nat,[]=e_ (List.take z d)/\0=(z:Int)/\h (false=false/\i ((Iv (z<=c)))))/\(∀x:Nat,let e:=e_ (List.take x d);let g:=ax (x:Int) (ab d);let f:=gt (Tree.mk 0 [] 0 0 false 0 0 []) e 0;let b:=gt (Tree.mk 0 [] 0 0 false 0 0 []) d (x:Int).toNat;let j:=aZ e [Tree.mk b.op b.r b.mn b.mx b.lz b.cap b.nk b.kids];(Iv (x<=c))->ag g (aC 0 (x:Int)/\g/\ag (az b.op 1) (∃z:Nat,e=e_ (List.take z d)/\an .i64 (x:Int) 1=(z:Int)/\h (false=false/\i ((Iv (z<=c/\(c-z)<(c-x)))))) (ag (az b.op 3) (aC 0 (x:Int)/\g/\fits (ab (aZ e b.kids)) 96/\∃z:Nat,aZ e b.kids=e_ (List.take z d)/\an .i64 (x:Int) 1=(z:Int)/\h (false=false/\i ((Iv (z<=c/\(c-z)<(c-x)))))) (aC 0 (x:Int)/\g/\fits (ab j) 96/\∃z:Nat,j=e_ (List.take z d)/\an .i64 (x:Int) 1=(z:Int)/\h (false=false/\i ((Iv (z<=c/\(c-z)<(c-x)))))))) (ag (az (ab e) 0) (1=a.op/\[]=a.r/\0=a.mn/\0=a.mx/\false=a.lz/\0=a.cap/\0=a.nk/\[]=a.kids/\True) (ag (az (ab e) 1) (Tt 1 (ax 0 (ab e)/\f.op=a.op/\f.r=a.r/\f.mn=a.mn/\f.mx=a.mx/\f.lz=a.lz/\f.cap=a.cap/\f.nk=a.nk/\f.kids=a.kids/\True)) (y.op=a.op/\y.r=a.r/\y.mn=a.mn/\y.mx=a.mx/\y.lz=a.lz/\y.cap=a.cap/\y.nk=a.nk/\e=a.kids/\True))))
def VF (y:List Tree):Prop:=let e:=y.length;(∃z:(List Tree)×Nat,aa [y] ([]=z.1/\0=(z.2:Int)/\(Iv (zk y z))))/\(∀x:(List Tree)×Nat,let d:=(x.2:Int);let a:=gt (Tree.mk 0 [] 0 0 false 0 0 []) y d.toNat;let f:=Tree.mk a.op a.r a.mn a.mx a.lz a.cap a.nk a.kids;let g:=([f]:List Tree);(Iv (zk y x))->ag (ax d (ab y)) (∃z:(List Tree)×Nat,(∃c:Nat,aa [y] (aa [d] (x.1=z.1/\false=Je y z.2 c/\0=(c:Int)/\(Iv (c<=z.2/\z.2<e/\zk y z)))))/\(∀x1:Nat,let h:=Je y z.2 x1;let j:=ax (x1:Int) d;let b:=gt (Tree.mk 0 [] 0 0 false 0 0 []) y (x1:Int).toNat;let i:=Tree.mk b.op b.r b.mn b.mx b.lz b.cap b.nk b.kids;(Iv (x1<=z.2/\z.2<e/\zk y z))->ag j (ag h (∃c:Nat,aa [y] (aa [d] (aa [z.1] (true=Je y z.2 c/\an .i64 (x1:Int) 1=(c:Int)/\(Iv ((c<=z.2/\z.2<e/\zk y z)/\(z.2-c)<(z.2-x1))))))) (aC 0 (x1:Int)/\ax (x1:Int) (ab y)/\aC 0 d/\ax d (ab y)/\Iv (dG i/\dG f)/\aa [b.op] (aa [b.r] (aa [b.mn,b.mx] (aa [b.lz] (aa [b.cap,b.nk] (aa [b.kids] (aa [a.op] (aa [a.r] (aa [a.mn,a.mx] (aa [a.lz] (aa [a.cap,a.nk] (aa [a.kids] (aa [b.op] (aa [b.r] (aa [b.mn,b.mx] (aa [b.lz] (aa [b.cap,b.nk] (aa [b.kids] (aa [a.op] (aa [a.r] (aa [a.mn,a.mx] (aa [a.lz] (aa [a.cap,a.nk] (aa [a.kids] (∃c:Nat,aa [y] (aa [d] (aa [z.1] (vd i f=Je y z.2 c/\an .i64 (x1:Int) 1=(c:Int)/\(Iv ((c<=z.2/\z.2<e/\zk y z)/\(z.2-c)<(z.2-x1)))))))))))))))))))))))))))))))) (ag (!h) (aC 0 d/\ax d (ab y)/\fits (ab (aZ z.1 g)) 96/\∃c:(List Tree)×Nat,aa [y] (aZ z.1 g=c.1/\an .i64 d 1=(c.2:Int)/\(Iv (zk y c/\(e-c.2)<(e-x.2))))) (∃c:(List Tree)×Nat,aa [y] (z.1=c.1/\an .i64 d 1=(c.2:Int)/\(Iv (zk y c/\(e-c.2)<(e-x.2)))))))) (x.1=lk (fa [] y)/\True))
def VG (y:List Tree):Prop:=let e:=y.length;let j:=λp:Prop=>aa [y] p;(∃z:(List Tree)×Nat,j (0=ab z.1/\0=(z.2:Int)/\[]=z.1/\(Iv (sE y z))))/\(∀x:(List Tree)×Nat,let d:=ab x.1;let b:=(x.2:Int);let c:=da .i64 d 1;let a:=gt (Tree.mk 0 [] 0 0 false 0 0 []) y b.toNat;let f:=gt (Tree.mk 0 [] 0 0 false 0 0 []) x.1 c.toNat;let g:=aZ (aZ [] f.r) a.r;let h:=aZ x.1 [Tree.mk a.op a.r a.mn a.mx a.lz a.cap a.nk a.kids];let i:Prop:=(aC 0 b/\ax b (ab y)/\fits (ab h) 96/\∃z:(List Tree)×Nat,j (ab h=ab z.1/\an .i64 b 1=(z.2:Int)/\h=z.1/\(Iv (sE y z/\(e-z.2)<(e-x.2)))));(Iv (sE y x))->ag (ax b (ab y)) (ag (ax 0 d) (aC 0 c/\ax c d/\ag (az f.op 2) (aC 0 b/\ax b (ab y)/\ag (az a.op 2) (aC 0 c/\ax c d/\fits (ab (aZ [] f.r)) 8/\aC 0 b/\ax b (ab y)/\fits (ab g) 8/\Iv (g.length<=2000000)/\aa [g] (aC 0 c/\ax c d/\aa [f.r,a.r,a.r] (∃z:(List Tree)×Nat,j (d=ab z.1/\an .i64 b 1=(z.2:Int)/\cA x.1 c.toNat (Tree.mk 2 (aL g) 0 0 false 0 0 [])=z.1/\(Iv (sE y z/\(e-z.2)<(e-x.2))))))) (i)) (i)) (i)) (x.1=bt [] y/\True))
def VH (y:Tree):Prop:=let d:=lk (Jf y);let e:=y.kids;let m:=(aw 4 e).length;let n:=λp:Prop=>aa ([0,0]:List Int) (aa ([[]]:List (List Tree)) (aa [y.op] (aa [y.r] (aa [y.mn,y.mx] (aa [y.lz] (aa [y.cap,y.nk] (aa [e] p)))))));let o:=λp:Prop=>aa ([0]:List Int) (aa ([[]]:List (List (Int×Int))) (aa ([0,0]:List Int) p));(∃z:Nat,let u:=aw 4 (List.take z e);[]=u/\0=(z:Int)/\o (false=false/\n ((Iv (z<=e.length/\u.length<=1000000)))))/\(∀x:Nat,let h:=e.length;let q:=ax (x:Int) (ab e);let g:=aw 4 (List.take x e);let s:=lk (fa [] g);let a:=gt (Tree.mk 0 [] 0 0 false 0 0 []) e (x:Int).toNat;let i:=aZ g [Tree.mk a.op a.r a.mn a.mx a.lz a.cap a.nk a.kids];(Iv (x<=h/\g.length<=1000000))->ag q (aC 0 (x:Int)/\q/\ag (az a.op 4) (aC 0 (x:Int)/\q/\fits (ab (aZ g a.kids)) 96/\∃z:Nat,let j:=aw 4 (List.take z e);aZ g a.kids=j/\an .i64 (x:Int) 1=(z:Int)/\o (false=false/\n ((Iv ((z<=h/\j.length<=1000000)/\(h-z)<(h-x)))))) (aC 0 (x:Int)/\q/\fits (ab i) 96/\∃z:Nat,let k:=aw 4 (List.take z e);i=k/\an .i64 (x:Int) 1=(z:Int)/\o (false=false/\n ((Iv ((z<=h/\k.length<=1000000)/\(h-z)<(h-x))))))) (Iv (dH g)/\aa [g] (Iv (s.length<=1000000/\tG s)/\aa [s] ((∃z:List Tree,g=z/\bt [] s=lk (vS z)/\o (false=false/\n ((Iv (dH z/\z.length<=m/\hV z.length z=hV m (aw 4 e))))))/\(∀x1:List Tree,let b:=lk (vS x1);let f:=lk (fa [] b);let t:=ax (ab b) (ab x1);let c:=gt (Tree.mk 0 [] 0 0 false 0 0 []) b 0;let l:=hV m (aw 4 e);(Iv (dH x1/\x1.length<=m/\hV x1.length x1=l))->ag t (Iv (dH b)/\aa [b] (Iv (f.length<=1000000/\tG f)/\aa [f] (∃z:List Tree,b=z/\bt [] f=lk (vS z)/\o (false=false/\n ((Iv ((dH z/\z.length<=m/\hV z.length z=l)/\z.length<x1.length))))))) (ag (az (ab b) 1) (Tt 1 (ax 0 (ab b)/\c.op=d.op/\c.r=d.r/\c.mn=d.mn/\c.mx=d.mx/\c.lz=d.lz/\c.cap=d.cap/\c.nk=d.nk/\c.kids=d.kids/\True)) (y.op=d.op/\y.r=d.r/\y.mn=d.mn/\y.mx=d.mx/\y.lz=d.lz/\y.cap=d.cap/\y.nk=d.nk/\b=d.kids/\True)))))))
def VI (y:Tree):Prop:=let a:=bs y;let b:=lk (cJ y);let e:=a.kids;let d:=gt (Tree.mk 0 [] 0 0 false 0 0 []) y.kids 0;let o:=az (gt (Tree.mk 0 [] 0 0 false 0 0 []) e 0).op 2;let j:=y.lz&&(decide (Ne y.mn y.mx));let k:=Tree.mk a.op a.r a.mn a.mx a.lz a.cap a.nk e;let m:=λp:Prop=>aa ([0]:List Int) (aa ([[]]:List (List (Int×Int))) (aa ([0,0]:List Int) p));let n:=λp:Prop=>aa ([0,0]:List Int) (aa ([[]]:List (List Tree)) (aa [y.op] (aa [y.r] (aa [y.mn,y.mx] p))));let l:Prop:=(aa [y.cap,y.nk] (aa [y.kids] ((Iv True))));let f:Prop:=(a.mx=b.mx/\a.lz=b.lz/\a.cap=b.cap/\a.nk=b.nk/\e=b.kids/\True);let g:Prop:=(a.op=b.op/\a.r=b.r/\a.mn=b.mn/\f);let c:Prop:=(y.op=b.op/\y.r=b.r/\y.mn=b.mn/\y.mx=b.mx/\j=b.lz/\y.cap=b.cap/\y.nk=b.nk/\y.kids=b.kids/\True);let h:Prop:=(ag (az a.op 5) (Tt 1 (ax 0 (ab e)/\ag o (ag (!j) (ag (!a.lz) (ag (az y.mx (-1)) (ag (az a.mx (-1)) (ag (aC y.mn 1) (ag (aC a.mn 1) (a.op=b.op/\a.r=b.r/\iR .i64 a.mn y.mn=b.mn/\f) (c)) (c)) (c)) (c)) (c)) (c)) (c))) (c));let i:Prop:=(ag (az y.mx 0) (Iv (dG k)/\aa [a.op] (aa [a.r] (aa [a.mn,a.mx] (aa [a.lz] (aa [a.cap,a.nk] (aa [e] (ag (!(fm k)) (1=b.op/\[]=b.r/\0=b.mn/\0=b.mx/\false=b.lz/\0=b.cap/\0=b.nk/\[]=b.kids/\True) (h)))))))) (h));Tt 1 (ax 0 (ab y.kids)/\(ag (az y.mn y.mx) (∃z:Unit,d.op=a.op/\d.r=a.r/\d.mn=a.mn/\d.mx=a.mx/\d.lz=a.lz/\d.cap=a.cap/\d.nk=a.nk/\d.kids=e/\m (false=false/\n (false=j/\l))) (∃z:Unit,d.op=a.op/\d.r=a.r/\d.mn=a.mn/\d.mx=a.mx/\d.lz=a.lz/\d.cap=a.cap/\d.nk=a.nk/\d.kids=e/\m (false=false/\n (y.lz=j/\l))))/\(∀x:Unit,(Iv True)->ag (az a.op 1) (g) (ag (az y.mn 1) (ag (az y.mx 1) (g) (i)) (i))))
theorem fields {a b:Tree} (h:b=a):a.op=b.op/\a.r=b.r/\a.mn=b.mn/\a.mx=b.mx/\a.lz=b.lz/\a.cap=b.cap/\a.nk=b.nk/\a.kids=b.kids:=by
 grind
def yi (t:Tree) (a:List Tree):t.op=(iQ t a).op/\t.r=(iQ t a).r/\t.mn=(iQ t a).mn/\t.mx=(iQ t a).mx/\t.lz=(iQ t a).lz/\t.cap=(iQ t a).cap/\t.nk=(iQ t a).nk/\a=(iQ t a).kids:=⟨rfl,rfl,rfl,rfl,rfl,rfl,rfl,rfl⟩
theorem Oc (a b:List Tree):e_ (a++b)=e_ a++e_ b:=by grind [e_]
theorem Ji {x:Nat} (a:x<l.length):e_ (l.take (x+1))=e_ (l.take x)++(if (l.getD x bn).op=1 then[] else if (l.getD x bn).op=3 then(l.getD x bn).kids else[l.getD x bn])/\(e_ (l.take (x+1))).length<=(e_ l).length:=by
 constructor
 ·grind [take_one,e_]
 ·grind [List.take_append_drop,Oc]
theorem Qtc (y:Tree) (f:Jd.pre y):VE y:=by
 obtain⟨h1,g⟩:y.kids.length<=1000000/\(e_ y.kids).length<=1000000:=f;unfold VE;have d:∀(l:List Tree) n,gt (Tree.mk 0 [] 0 0 false 0 0 []) l n=l.getD n bn:=λ_ _=>rfl
 simp only[QaU,dq,aj,aO,aU,d,bG,Zad,aq];refine⟨⟨0,by rfl,rfl,Zaj _⟩,λx i=>⟨λe=>?_,λe=>?_⟩⟩
 ·have c:x<y.kids.length:=ω;obtain⟨j,m⟩:=Ji c;grind
 ·rw[show x=y.kids.length by omega,ZaM];unfold Jc
  match e_ y.kids with
  | []=>exact⟨λ_=>⟨rfl,rfl,rfl,rfl,rfl,rfl,rfl,rfl⟩,λh=>absurd rfl h⟩
  | [k]=>exact⟨λh=>by simp at h,λ_=>⟨λ_=>⟨by simp,rfl,rfl,rfl,rfl,rfl,rfl,rfl,rfl⟩,λh=>by simp at h⟩⟩
  | a::b::l=>exact⟨λh=>by grind,λ_=>⟨λh=>by grind,λ_=>yi _ _⟩⟩
def Qly:Ok Jd:=okZ [] Tryz.f89 Qs1 trivial Qtc
theorem yP:∀(l s:List Tree),(fa s l).Sublist l
 | [],s=>List.Sublist.refl _
 | k::l,s=>by
  rw[fa];split
  ·exact(yP l _).cons _
  ·exact(yP l _).cons₂ _
theorem Jj:∀{l m:List Tree},l.Sublist m->∀{n:Nat},NL n (au m)->NL n (au l)
 | _,_,.slnil,_,h=>h
 | _,_,.cons a hs,_,h=>by
  obtain⟨p1,p2,p3⟩:=nT h;have:=Jj hs p2;exact this.to ω
 | _,_,.cons₂ a hs,_,h=>by
  obtain⟨p1,p2,p3⟩:=nT h;have:=Jj hs p2;rw[cU];exact(p1.app this).to p3
def Jk (h:dH l):dH (fa [] l)/\(fa [] l).length<=l.length:=⟨Jj (yP l []) h,(yP l []).length_le⟩
theorem Qtd (y:List Tree) (b:Oa.pre y):VF y:=by
 have b:dH y:=b;have hl:=b.len;have c:∀i k,Je y i k=(y.take k).any λx=>vd x (y.getD i bn):=λi k=>by grind [Je,aq]
 unfold VF;have h:∀(l:List Tree) n,gt (Tree.mk 0 [] 0 0 false 0 0 []) l n=l.getD n bn:=λ_ _=>rfl
 simp only[QaU,dq,aj,aO,aU,h,bG,Zad,aq,Zan,Zao,c];refine⟨⟨([],0),rfl,rfl,Zaj _,Zah _,rfl⟩,λx a=>⟨λe=>⟨x,⟨0,rfl,rfl,rfl,Zaj _,ω,a⟩,λk hk=>⟨λek=>?_,λek=>?_⟩⟩,λe=>?_⟩⟩
 ·obtain⟨k1,k2,_⟩:=hk;have j:k<y.length:=ω;have ht:∀f:Tree->Bool,(y.take (k+1)).any f=((y.take k).any f||f (y.getD k bn)):=λf=>by grind [take_one]
  refine⟨λq=>⟨k+1,by grind,bz ω,⟨ω,k2,a⟩,ω⟩,λq=>⟨ω,ω,ω,e,⟨b.get j,b.get k2⟩,k+1,by grind,bz ω,⟨ω,k2,a⟩,ω⟩⟩
 ·obtain⟨k1,k2,_⟩:=hk;have:k=x.2:=ω;subst this;obtain⟨i1,i2,i3⟩:=a;have g:y.drop x.2=y.getD x.2 bn::y.drop (x.2+1):=by simp_all
  rw[g,fa] at i3;have d:y.take x.2++[y.getD x.2 bn]=y.take (x.2+1):=(take_one bn k2).symm;rw[d] at i3;refine⟨λq=>?_,λq=>?_⟩
  ·rw[Zaa (by grind)] at i3;exact⟨ω,e,by grind,(x.1++[y.getD x.2 bn],x.2+1),rfl,bz ω,⟨k2,by grind,by grind⟩,show y.length-(x.2+1)<y.length-x.2 by omega⟩
  ·rw[Zac q] at i3;exact⟨(x.1,x.2+1),rfl,bz ω,⟨k2,by grind,i3⟩,show y.length-(x.2+1)<y.length-x.2 by omega⟩
 ·obtain⟨i1,i2,i3⟩:=a;grind [fa]
def Qlz:Ok Oa:=okZ [N'] Tryz.f124 Qs3 Qlu Qtd
theorem Qte (y:List Tree) (p:Ob.pre y):VG y:=by
 obtain⟨hl,j⟩:y.length<=1000000/\tG y:=p;unfold VG;have f:∀(l:List Tree) n,gt (Tree.mk 0 [] 0 0 false 0 0 []) l n=l.getD n bn:=λ_ _=>rfl
 simp only[QaU,dq,aj,aO,aU,f,bG,Zad,Zcb];refine⟨⟨([],0),rfl,rfl,rfl,Zaj _,rfl,Zah _,λt ht=>nomatch ht⟩,λx m=>?_⟩;obtain⟨o,i⟩:=x;obtain⟨c1,c2,c3,c4⟩:i<=y.length/\bt o (y.drop i)=bt [] y/\o.length<=i/\tG o:=m;simp only;refine⟨λe=>?_,λe=>?_⟩
 ·have s:i<y.length:=ω;have d:y.drop i=y.getD i bn::y.drop (i+1):=by simp_all
  have hk:(y.getD i bn).r.length<=1000000:=j _ (by grind);rw[d,bt] at c2;have u:=jk o (y.getD i bn);have q:=EV c4 hk;have step:∀z,z=dv o (y.getD i bn)->sE y (z,i+1)/\y.length-(i+1)<y.length-i:=λz hz=>by
   subst hz;exact⟨⟨show i+1<=y.length by omega,c2,show(dv o (y.getD i bn)).length<=i+1 by omega,q⟩,ω⟩
  generalize y.getD i bn=k at*
  have b:¬(o.length≠0/\k.op=2/\(lU o).op=2)->(0:Int)<=(i:Int)/\(i:Int)<(y.length:Int)/\(((o++[k]).length:Nat):Int)*(96:Nat)<=140737488355328/\∃z:List Tree×Nat,(((o++[k]).length:Nat):Int)=((z.1.length:Nat):Int)/\an .i64 (i:Int) 1=(z.2:Int)/\o++[k]=z.1/\sE y z/\y.length-z.2<y.length-i:=λh=>by
   grind [dv]
  refine⟨λh0=>?_,λh0=>b λh=>h.1 ω⟩;rw[xK ω ω];have c:o.getD (((o.length-1:Nat):Int).toNat) bn=lU o:=rfl;have g:(lU o).r.length<=1000000:=c4 _ (by grind);simp only[c];refine⟨ω,ω,λh1=>⟨ω,e,λa=>⟨ω,ω,ω,ω,e,by grind,by grind,ω,ω,(dv o k,i+1),?_,bz ω,?_,step _ rfl⟩,λa=>b λh=>a h.2.1⟩,λh1=>b λh=>h1 h.2.2⟩
  ·grind [dv]
  ·show cA o (((o.length-1:Nat):Int).toNat) _=dv o k
   unfold dv;rw[Zac ⟨ω,a,h1⟩];rfl
 ·grind [bt]
def QlA:Ok Ob:=okZ [lP] Tryz.f123 Qs5 (Hr xu) Qte
def QlB (h:dH l):dH (vS l)/\(vS l).length<=l.length:=by
 obtain⟨o1,c⟩:=Jk h;obtain⟨a,b⟩:=KY o1;exact⟨a,Zav b c⟩
theorem FD:∀(n m:Nat) (l:List Tree),l.length<=n->l.length<=m->hV n l=hV m l
 | 0,0,l,_,_=>rfl
 | 0,m+1,l,h,_=>by grind [hV]
 | n+1,0,l,_,h=>by grind [hV]
 | n+1,m+1,l,h1,a=>by
  rw[hV,hV];split
  ·exact FD n m _ ω ω
  ·rfl
theorem VJ (h:(vS l).length<l.length):hV (vS l).length (vS l)=hV l.length l:=by
 obtain⟨k,hk⟩:∃k,l.length=k+1:=⟨l.length-1,ω⟩;grind [hV,FD]
theorem Qar (h:¬(vS l).length<l.length):hV l.length l=vS l:=by
 cases hl:l.length with
 | zero=>rfl
 | succ k=>rw[hV,Zaa h]
theorem FE (op:Int) {x:Nat} (a:x<l.length):aw op (l.take (x+1))=aw op (l.take x)++(if (l.getD x bn).op=op then(l.getD x bn).kids else[l.getD x bn]):=by
 grind [take_one,aw]
theorem Qtf (y:Tree) (s:Jg.pre y):VH y:=by
 obtain⟨h1,f⟩:y.kids.length<=1000000/\dH (aw 4 y.kids):=s;unfold VH;have r:∀(l:List Tree) n,gt (Tree.mk 0 [] 0 0 false 0 0 []) l n=l.getD n bn:=λ_ _=>rfl
 simp only[QaU,dq,aj,aO,aU,r,bG,Zad,aq];refine⟨⟨0,by rfl,rfl,ω,by simp[aw]⟩,λx v=>⟨λe=>?_,λe=>?_⟩⟩
 ·have q:x<y.kids.length:=ω;have A:=FE 4 q;have B:=kU 4 y.kids (x+1);have s3:=f.len;grind
 ·have i:x=y.kids.length:=ω;subst i;rw[ZaM];obtain⟨o1,z⟩:=Jk f;refine⟨f,⟨o1.len,o1.rt⟩,⟨_,rfl,rfl,f,Zah _,rfl⟩,λl hl=>⟨λc=>?_,λc=>?_⟩⟩
  ·obtain⟨p,t,g⟩:=hl;obtain⟨j,w⟩:=QlB p;obtain⟨o,u⟩:=Jk j;have d:(vS l).length<l.length:=ω;exact⟨j,⟨o.len,o.rt⟩,_,rfl,rfl,⟨j,ω,by rw[VJ d,g]⟩,d⟩
  ·obtain⟨p,t,g⟩:=hl;have d:¬(vS l).length<l.length:=ω;rw[Qar d] at g;unfold Jf;rw[<-g]
   match vS l with
   | []=>exact⟨λh=>by simp at h,λ_=>yi _ _⟩
   | [k]=>exact⟨λ_=>⟨by simp,rfl,rfl,rfl,rfl,rfl,rfl,rfl,rfl⟩,λh=>by simp at h⟩
   | a::b::m=>exact⟨λh=>by grind,λ_=>yi _ _⟩
def QlC:Ok Jg:=okZ [Oa,Ob] Tryz.f90 Qs7 ⟨Qlz,QlA⟩ Qtf
theorem Qtg (y:Tree) (t:Jh.pre y):VI y:=by
 obtain⟨⟨h1,m,D,q⟩,r⟩:Z0 y/\y.op=5:=t;unfold VI;have s:∀(l:List Tree) n,gt (Tree.mk 0 [] 0 0 false 0 0 []) l n=l.getD n bn:=λ_ _=>rfl
 have hk:y.kids.getD 0 bn=bs y:=rfl;have f:(bs y).kids.getD 0 bn=bs (bs y):=rfl;simp only[QaU,dq,aj,s,hk,f,bG,aq,Zan,Zao,ZaY,ZaZ];have R:¬(bs y).op=1->¬(y.mn=1/\y.mx=1)->¬(y.mx=0/\fm (bs y)=false)->cJ y=if (y.lz&&decide (y.mn≠y.mx))=false/\y.mx= -1/\y.mn<=1/\(bs y).op=5/\(bs y).lz=false/\(bs y).mx= -1/\(bs y).mn<=1/\(bs (bs y)).op=2 then ET (bs y) y.mn else uV y:=λa b c=>by
  unfold cJ;rw[Zaa a,Zaa b,Zaa c];have c:(eN (KX (uV y))/\eN (KX (bs y))/\(bs (bs y)).op=2)↔((y.lz&&decide (y.mn≠y.mx))=false/\y.mx= -1/\y.mn<=1/\(bs y).op=5/\(bs y).lz=false/\(bs y).mx= -1/\(bs y).mn<=1/\(bs (bs y)).op=2):=by
   have C:eN (KX (uV y))=(!(y.lz&&decide (y.mn≠y.mx))&&y.mx==-1&&decide (y.mn<=1)):=by
    show(y.op==5&&_&&_&&_)=_
    rw[r];rfl
   grind [eN,KX]
  grind
 have o:(bs y).op=1->cJ y=bs y:=λh=>by grind [cJ]
 have p:¬(bs y).op=1->y.mn=1->y.mx=1->cJ y=bs y:=λh a b=>by grind [cJ]
 have k:¬(bs y).op=1->¬(y.mn=1/\y.mx=1)->y.mx=0->fm (bs y)=false->cJ y=.mk 1 [] 0 0 false 0 0 []:=λh a b c=>by grind [cJ]
 have M:(bs y).op=5->y.mn<=1->(bs y).mn<=1->iR .i64 (bs y).mn y.mn=(bs y).mn*y.mn:=λa b c=>by
  grind
 refine⟨ω,⟨λe=>?_,λe=>?_⟩,λo1=>fields (o o1),λo1=>⟨λm1=>⟨λm2=>fields (p o1 m1 m2),λm2=>⟨λx0=>⟨m,λg=>fields (k o1 ω x0 g),λg=>?_⟩,λx0=>?_⟩⟩,λm1=>⟨λx0=>⟨m,λg=>fields (k o1 ω x0 g),λg=>?_⟩,λx0=>?_⟩⟩⟩
 ·grind
 ·simp[e]
 all_goals
  have e:=R o1 ω (by first | (intro h;omega) | (intro h;rw[g] at h;exact absurd h.2 (by simp)));refine⟨λk5=>⟨by have:=(q k5).2;omega,λk2=>⟨λz=>⟨λi=>⟨λmx=>⟨λd=>⟨λa=>⟨λb=>?_,λb=>?_⟩,λa=>?_⟩,λd=>?_⟩,λmx=>?_⟩,λi=>?_⟩,λz=>?_⟩,λk2=>?_⟩,λk5=>?_⟩
  ·rw[Zac ⟨z,mx,a,k5,i,d,b,k2⟩] at e;rw[e,M k5 a b];exact⟨rfl,rfl,rfl,rfl,rfl,rfl,rfl,rfl⟩
  all_goals
   rw[Zaa (by rintro⟨x,E,A,v,j,w,B,u⟩;first | omega | exact absurd (x.symm.trans z) ZaS | exact absurd (j.symm.trans i) ZaS)] at e;rw[e];exact⟨rfl,rfl,rfl,rfl,rfl,rfl,rfl,rfl⟩
def QlD:Ok Jh:=okZ [Jb] Tryz.f91 Qta Qlv Qtg
mutual
def CD:Tree->Bool
 | .mk op _ mn mx _ _ _ ks=>if op=1 then true else if op=3 then qA ks else if op=5 then(if mx=0 then true else decide (mn=mx)&&CE ks) else false
def qA:List Tree->Bool
 | []=>true
 | t::l=>CD t&&qA l
def CE:List Tree->Bool
 | []=>false
 | t::_=>CD t
end
def jX (t:Tree):Bool:=lk (CD t)
def Gg (y:Tree):Prop:=dG y/\kz y
def FF:bf D:=bZ 126 Tree (λa _=>uU a) Gg (λy=>[.agg (D.aX 15 y)]) λy=>.bool (jX y)
def Qth (y:FF.Y):cH D:=⟨[],[],[(3442,⟨Nat,[],λx=>[(1,.ptr 0 0),(3,Qu9 x)],[],λ_=>[tbx y],1,λx=>x<=y.kids.length/\qA (y.kids.drop x)=qA y.kids,λx=>y.kids.length-x⟩)],[],1,[]⟩
def Qti (y:FF.Y):Prop:=vc [FF.under cZ (cZ y)] Tryz.f126 FF Qth y
structure df where
 code:List Ins
 bD:Bool
def bp (y:df) (i:Ins):df×Int:=if 400<=y.code.length then(⟨y.code,true⟩,0) else(⟨y.code++[i],y.bD⟩,y.code.length)
def lj (y:df) (lz:Bool) (j:Int):df:=if y.bD=true then y else⟨fx y.code.length lz y.code j,false⟩
def dR (g:List Ins->Int->List Ins) (y:df) (a:List Int):df:=if y.bD=true then y else⟨a.foldl g y.code,false⟩
def z1 (f:df->df) (q:Bool):Nat->df->df
 | 0,s=>s
 | n+1,s=>if s.bD\/q=true then s else z1 f q n (f s)
def jY (f:df->df):Nat->df->List Int->df×List Int
 | 0,s,j=>(s,j)
 | n+1,s,j=>if s.bD=true then(s,j) else jY f n (f (bp s ⟨2,0,0,[]⟩).1) (j++[(bp s ⟨2,0,0,[]⟩).2])
def A3 (f:df->df) (lz:Bool) (s:df):df:=lj (bp (f (bp s ⟨2,0,0,[]⟩).1) ⟨3,(bp s ⟨2,0,0,[]⟩).2,0,[]⟩).1 lz (bp s ⟨2,0,0,[]⟩).2
def yj (f:df->df) (q:Bool) (mn mx:Int) (lz:Bool) (s:df):df:=
 if mx= -1 then A3 f lz (z1 f q mn.toNat s)
 else dR (fx (jY f (kY mn mx) (z1 f q mn.toNat s) []).1.code.length lz) (jY f (kY mn mx) (z1 f q mn.toNat s) []).1 (jY f (kY mn mx) (z1 f q mn.toNat s) []).2
def vg (f:df->df) (s:df):df×Int:=(lj (bp (f (bp s ⟨2,0,0,[]⟩).1) ⟨3,0,0,[]⟩).1 false (bp s ⟨2,0,0,[]⟩).2,(bp (f (bp s ⟨2,0,0,[]⟩).1) ⟨3,0,0,[]⟩).2)
mutual
def iW:Tree->df->df
 | .mk op r mn mx lz cap _ ks,s=>if s.bD=true then s
  else if op=2 then(bp s ⟨1,0,0,r⟩).1
  else if op=3 then ll ks s
  else if op=4 then dR (kZ (fS ks s []).1.code.length) (fS ks s []).1 (fS ks s []).2
  else if op=5 then yj (λs=>OM ks s) (CE ks) mn mx lz s
  else if op=6 then(bp (OM ks (bp s ⟨4,2*cap,0,[]⟩).1) ⟨4,2*cap+1,0,[]⟩).1
  else if op=7 then(bp s ⟨5,0,0,[]⟩).1
  else if op=8 then(bp s ⟨6,0,0,[]⟩).1 else s
def ll:List Tree->df->df
 | [],s=>s
 | t::l,s=>if s.bD=true then s else ll l (iW t s)
def OM:List Tree->df->df
 | [],s=>s
 | t::_,s=>iW t s
def fS:List Tree->df->List Int->df×List Int
 | [],s,j=>(s,j)
 | t::l,s,j=>if s.bD=true then(s,j) else if l.isEmpty=true then(iW t s,j) else fS l (vg (λs=>iW t s) s).1 (j++[(vg (λs=>iW t s) s).2])
end
def Jl (n:Nat) (y:df):List (Nat×AO D.E):=[(0,.cells [.own n 4 (ab y.code),.bool y.bD] 154 false),(n,.arr 8 y.code 128 false)]
def VK (v:AV D.E) (s:St D.E):C df:=match v with
 | .ptr b _=>av (cE (s.h.get b)) λo=>match o with
  | .cells cs _ _=>match cs with
   | [c,b]=>av (rowsOf D s 8 c) λc=>aI (yR b) λb _=>.ret ⟨c,b⟩
   | _=>.fail
  | _=>.fail
 | _=>.fail
def zl:bf D:=⟨60,df×Ins,λa s=>match a with
 | [p,i]=>av (VK p s) λy=>av (QcE i) λi=>.ret (y,i)
 | _=>.fail,λy=>y.1.code.length<=400,λy=>[.ptr 0 0,.agg (D.aX 8 y.2)],λy=>Jl 1 y.1,λy=>Qu9 (bp y.1 y.2).2,λy=>Jl 2 (bp y.1 y.2).1,2,3⟩
def VL:bf D:=⟨127,df×Int×Int×Bool,λa s=>match a with
 | [p,i,o,b]=>av (VK p s) λy=>aI (cT i) λ_ i=>aI (cT o) λ_ o=>aI (yR b) λb _=>.ret (y,i,o,b)
 | _=>.fail,λy=>y.1.code.length<=1000/\0<=y.2.1/\y.2.1<y.1.code.length,λy=>[.ptr 0 0,Qu9 y.2.1,Qu9 y.2.2.1,.bool y.2.2.2],λy=>Jl 1 y.1,λ_=>.tuple [],λy=>Jl 1 ⟨fx y.2.2.1 y.2.2.2 y.1.code y.2.1,y.1.bD⟩,2,2⟩
def VM (y:Tree):Prop:=let c:=y.kids;let a:=gt (Tree.mk 0 [] 0 0 false 0 0 []) c 0;let e:=Tree.mk a.op a.r a.mn a.mx a.lz a.cap a.nk a.kids;let h:=λp:Prop=>aa [y.op] (aa [y.r] (aa [y.mn,y.mx] (aa [y.lz] (aa [y.cap,y.nk] (aa [c] p)))));ag (az y.op 1) (true=jX y/\True) (ag (az y.op 3) ((∃z:Nat,0=(z:Int)/\h ((Iv (z<=c.length/\qA (List.drop z c)=qA c))))/\(∀x:Nat,let d:=c.length;let g:=ax (x:Int) (ab c);let b:=gt (Tree.mk 0 [] 0 0 false 0 0 []) c (x:Int).toNat;let f:=Tree.mk b.op b.r b.mn b.mx b.lz b.cap b.nk b.kids;(Iv (x<=d/\qA (List.drop x c)=qA c))->ag g (aC 0 (x:Int)/\g/\Iv (Gg f/\cZ f<cZ y)/\aa [b.op] (aa [b.r] (aa [b.mn,b.mx] (aa [b.lz] (aa [b.cap,b.nk] (aa [b.kids] (ag (!(jX f)) (false=jX y/\True) (∃z:Nat,an .i64 (x:Int) 1=(z:Int)/\h ((Iv ((z<=d/\qA (List.drop z c)=qA c)/\(d-z)<(d-x)))))))))))) (true=jX y/\True))) (ag (az y.op 5) (ag (az y.mx 0) (true=jX y/\True) (ag (az y.mn y.mx) (Tt 1 (ax 0 (ab c)/\Iv (Gg e/\cZ e<cZ y)/\aa [a.op] (aa [a.r] (aa [a.mn,a.mx] (aa [a.lz] (aa [a.cap,a.nk] (aa [a.kids] (jX e=jX y/\True)))))))) (false=jX y/\True))) (false=jX y/\True)))
def Qas:∀y,VM y=Qti y:=λy=>by kernel_rfl
def Qdc (y:df×Ins):Prop:=let b:=ab y.1.code;let c:=ab (bp y.1 y.2).1.code;let a:=aZ y.1.code [y.2];ag (aC 400 b) (0=(bp y.1 y.2).2/\b=c/\true=(bp y.1 y.2).1.bD/\y.1.code=(bp y.1 y.2).1.code/\True) (fits (ab a) 48/\aa [b,y.2.op,y.2.x,y.2.y] (aa [y.2.a_] (da .i64 (ab a) 1=(bp y.1 y.2).2/\ab a=c/\y.1.bD=(bp y.1 y.2).1.bD/\a=(bp y.1 y.2).1.code/\True)))
def Qdd (y:df×Int×Int×Bool):Prop:=let a:=ab y.1.code;let b:=y.2.1.toNat;let i:=an .i64 y.2.1 1;let e:=gt (Ins.mk 0 0 0 []) y.1.code b;let d:=fx y.2.2.1 y.2.2.2 y.1.code y.2.1;let j:=cA y.1.code b (Ins.mk e.op i e.y e.a_);let f:=gt (Ins.mk 0 0 0 []) j b;let g:=cA j b (Ins.mk f.op f.x y.2.2.1 f.a_);let h:=gt (Ins.mk 0 0 0 []) g b;let k:=cA g b (Ins.mk h.op y.2.2.1 h.y h.a_);let c:=gt (Ins.mk 0 0 0 []) k b;aC 0 y.2.1/\ax y.2.1 a/\aC 0 y.2.1/\ax y.2.1 a/\aa [a,a] (ag y.2.2.2 (aC 0 y.2.1/\ax y.2.1 a/\aC 0 y.2.1/\ax y.2.1 a/\aa [a,a] (a=ab d/\aa [y.1.bD] (cA k b (Ins.mk c.op c.x i c.a_)=d/\True))) (a=ab d/\aa [y.1.bD] (g=d/\True)))
def Gg.Ud {y:Tree} (h:Gg y) {x:Nat} (a:x<y.kids.length):Gg (y.kids.getD x bn):=⟨(yh h.1 a).1,((iM y).mp h.2).2.2.mem a⟩
def QfW (t:Tree):CD t=if t.op=1 then true else if t.op=3 then qA t.kids else if t.op=5 then(if t.mx=0 then true else decide (t.mn=t.mx)&&CE t.kids) else false:=by cases t;rw[CD];rfl
theorem Lv {l:List Tree} (h:0<l.length):CE l=CD (l.getD 0 bn):=by
 cases l with
 | nil=>cases h
 | cons t l=>rw[CE];rfl
theorem QlE (y:Tree) (b:FF.pre y):VM y:=by
 have b:Gg y:=b;have hk:=b.1.few;have eS:∀t,jX t=CD t:=λt=>by grind [jX,aq]
 unfold VM;have j:∀(l:List Tree) n,gt (Tree.mk 0 [] 0 0 false 0 0 []) l n=l.getD n bn:=λ_ _=>rfl
 simp only[QaU,dq,aj,j,bG,Zad,Zan,Zao,eS];have q:=QfW y;refine⟨λo1=>by grind,λo1=>⟨λd=>⟨⟨0,rfl,Zaj _,rfl⟩,λx k=>⟨λe=>?_,λe=>?_⟩⟩,λd=>⟨λf=>⟨λm=>?_,λm=>⟨λm2=>?_,λm2=>?_⟩⟩,λf=>?_⟩⟩⟩
 ·rw[Zaa o1,Zac d] at q;have c:x<y.kids.length:=ω;have i:y.kids.drop x=y.kids.getD x bn::y.kids.drop (x+1):=by simp_all
  have h:=k.2;rw[i,qA] at h;refine⟨ω,e,⟨b.Ud c,gY c⟩,λg=>?_,λg=>⟨x+1,bz ω,⟨c,?_⟩,ω⟩⟩
  ·grind
  ·grind
 ·grind [qA]
 ·grind
 ·have a:0<y.kids.length:=by
   have:=(((iM y).mp b.2).1.rep f).1;grind
  rw[q,Zaa o1,Zaa d,Zac f,Zaa m,Lv a];exact⟨ω,⟨b.Ud a,gY a⟩,by simp[m2]⟩
 ·grind
 ·grind
def QlF:Ok FF:=OJ cZ Qas trivial QlE
theorem Lw:Ok zl:=okZ (V:=Qdc) [] Tryz.f60 (λ_=>cX ()) trivial λy a=>by
 grind [Qdc,bp]
def QlG:Ok VL:=okZ (V:=Qdd) [] Tryz.f127 (λ_=>cX ()) trivial λy f=>by
 obtain⟨m,a,o,lz⟩:=y;obtain⟨h1,b,c⟩:m.code.length<=1000/\0<=a/\a<m.code.length:=f;have hi:a.toNat<m.code.length:=ω;unfold Qdd;simp only[dq,dP,gf,aj,ef,Cn hi,tK];have e:an .i64 a 1=a+1:=aV ω ω;have d:gt (Ins.mk 0 0 0 []) m.code a.toNat=m.code.getD a.toNat in0:=rfl;refine⟨b,c,b,c,λh=>⟨b,c,b,c,?_⟩,λh=>?_⟩
 ·simp only[e,d,h,fx,Zbv];rfl
 ·simp only[e,d,h,fx,ZaE,Za0];rfl
structure Gw (s t:df):Prop where
 len:s.code.length<=t.code.length
 max:s.code.length<=400->t.code.length<=400
 bD:s.bD=true->t.bD=true
variable {Z:df->df} {s Y:df}
theorem Gw.refl (s:df):Gw s s:=⟨Zah _,id,id⟩
def Gw.trans {u:df} (h:Gw s Y) (k:Gw Y u):Gw s u:=⟨Zav h.len k.len,λe=>k.max (h.max e),λe=>k.bD (h.bD e)⟩
theorem Gw.low (h:Gw s Y) (e:Y.bD=false):s.bD=false:=by
 cases a:s.bD with
 | false=>rfl
 | true=>rw[h.bD a] at e;cases e
theorem eV (s:df) (i:Ins):Gw s (bp s i).1/\((bp s i).1.bD=false->s.code.length<400/\(bp s i).2=s.code.length/\(bp s i).1=⟨s.code++[i],false⟩):=by
 unfold bp;split
 ·exact⟨⟨Zah _,id,λ_=>rfl⟩,λh=>by cases h⟩
 ·refine⟨⟨by simp,λh=>by grind,id⟩,λh=>⟨ω,rfl,?_⟩⟩;grind
theorem CF (s:df) (lz:Bool) (j:Int):Gw s (lj s lz j)/\(lj s lz j).code.length=s.code.length/\(lj s lz j).bD=s.bD:=by
 unfold lj;split
 ·grind [Gw.refl]
 ·rename_i h
  have h:s.bD=false:=by grind
  exact⟨⟨by grind [ef],by grind [ef],λe=>by grind⟩,ef _ _ _ _,h.symm⟩
theorem fJ (g:List Ins->Int->List Ins) (b:∀l j,(g l j).length=l.length) (s:df) (a:List Int):Gw s (dR g s a)/\(dR g s a).code.length=s.code.length/\(dR g s a).bD=s.bD:=by
 have:∀(a:List Int) (l:List Ins),(a.foldl g l).length=l.length:=λa=>by
  induction a with
  | nil=>intro l;rfl
  | cons j a c=>intro l;rw[Zb2,c,b]
 unfold dR;split
 ·grind [Gw.refl]
 ·rename_i h
  have h:s.bD=false:=by grind
  exact⟨⟨by grind,by grind,λe=>by grind⟩,this _ _,h.symm⟩
theorem vT (q:Bool) (a:∀s,Gw s (Z s)):∀(n:Nat) (s:df),Gw s (z1 Z q n s)
 | 0,s=>Gw.refl s
 | n+1,s=>by
  rw[z1];split
  ·exact Gw.refl s
  ·exact(a s).trans (vT q a n _)
def InJ (s:df) (j:List Int):Prop:=s.bD=false->∀v∈j,0<=v/\v<s.code.length
theorem InJ.more {j:List Int} (h:InJ s j) (g:Gw s Y) {v:Int} (b:Y.bD=false->0<=v/\v<Y.code.length):InJ Y (j++[v]):=λe x a=>by
 rcases List.mem_append.mp a with h1 | h1
 ·have:=h (g.low e) x h1;have:=g.len;omega
 ·grind
theorem tP (a:∀s,Gw s (Z s)):∀(n:Nat) (s:df) (j:List Int),InJ s j->Gw s (jY Z n s j).1/\InJ (jY Z n s j).1 (jY Z n s j).2/\(jY Z n s j).2.length<=j.length+n
 | 0,s,j,h=>⟨Gw.refl s,h,Zah _⟩
 | n+1,s,j,h=>by
  rw[jY];split
  ·grind [Gw.refl]
  ·obtain⟨p1,p2⟩:=eV s ⟨2,0,0,[]⟩;have g1:=p1.trans (a (bp s ⟨2,0,0,[]⟩).1);obtain⟨o1,b,g⟩:=tP a n (Z (bp s ⟨2,0,0,[]⟩).1) (j++[(bp s ⟨2,0,0,[]⟩).2]) (h.more g1 λe=>by
    obtain⟨i,c,k⟩:=p2 ((a _).low e);have:=(a (bp s ⟨2,0,0,[]⟩).1).len;have d:(bp s ⟨2,0,0,[]⟩).1.code.length=s.code.length+1:=by grind
    rw[c];omega)
   exact⟨g1.trans o1,b,by grind⟩
def Lx (a:∀s,Gw s (Z s)) (lz:Bool) (s:df):Gw s (A3 Z lz s):=by
 unfold A3;exact(((eV s _).1.trans (a _)).trans (eV _ _).1).trans (CF _ _ _).1
def Qav (a:∀s,Gw s (Z s)) (q:Bool) (mn mx:Int) (lz:Bool) (s:df):Gw s (yj Z q mn mx lz s):=by
 unfold yj;have h1:=vT q a mn.toNat s;split
 ·exact h1.trans (Lx a lz _)
 ·have b:=tP a (kY mn mx) (z1 Z q mn.toNat s) [] (λ_ v c=>nomatch c);exact(h1.trans b.1).trans (fJ _ (λl j=>ef _ _ _ _) _ _).1
theorem Ly (a:∀s,Gw s (Z s)) (s:df):Gw s (vg Z s).1/\((vg Z s).1.bD=false->0<=(vg Z s).2/\(vg Z s).2<(vg Z s).1.code.length):=by
 unfold vg;obtain⟨p1,p2⟩:=eV s ⟨2,0,0,[]⟩;obtain⟨b,c⟩:=eV (Z (bp s ⟨2,0,0,[]⟩).1) ⟨3,0,0,[]⟩;obtain⟨k1,k2,k3⟩:=CF (bp (Z (bp s ⟨2,0,0,[]⟩).1) ⟨3,0,0,[]⟩).1 false (bp s ⟨2,0,0,[]⟩).2;refine⟨((p1.trans (a _)).trans b).trans k1,λe=>?_⟩;grind
def sO (t:Tree) (s:df):iW t s=if s.bD=true then s
  else if t.op=2 then(bp s ⟨1,0,0,t.r⟩).1
  else if t.op=3 then ll t.kids s
  else if t.op=4 then dR (kZ (fS t.kids s []).1.code.length) (fS t.kids s []).1 (fS t.kids s []).2
  else if t.op=5 then yj (λs=>OM t.kids s) (CE t.kids) t.mn t.mx t.lz s
  else if t.op=6 then(bp (OM t.kids (bp s ⟨4,2*t.cap,0,[]⟩).1) ⟨4,2*t.cap+1,0,[]⟩).1
  else if t.op=7 then(bp s ⟨5,0,0,[]⟩).1
  else if t.op=8 then(bp s ⟨6,0,0,[]⟩).1 else s:=by cases t;rw[iW];rfl
mutual
theorem lV:∀(t:Tree) (s:df),Gw s (iW t s)
 | .mk op r mn mx lz cap nk ks,s=>by
  have hL:=CG ks
  have hH:=QlI ks
  have hA:=yk ks s [] (λ_ v hv=>nomatch hv)
  rw[iW]
  split
  ·exact Gw.refl s
  ·split
   ·exact(eV _ _).1
   ·split
    ·exact hL s
    ·split
     ·exact hA.1.trans (fJ _ (λl j=>iO _ _ _) _ _).1
     ·split
      ·exact Qav hH _ _ _ _ s
      ·split
       ·exact((eV _ _).1.trans (hH _)).trans (eV _ _).1
       ·split
        ·exact(eV _ _).1
        ·split
         ·exact(eV _ _).1
         ·exact Gw.refl s
theorem CG:∀(l:List Tree) (s:df),Gw s (ll l s)
 | [],s=>by rw[ll];exact Gw.refl s
 | t::l,s=>by
  rw[ll]
  split
  ·exact Gw.refl s
  ·exact(lV t s).trans (CG l _)
theorem QlI:∀(l:List Tree) (s:df),Gw s (OM l s)
 | [],s=>by rw[OM];exact Gw.refl s
 | t::_,s=>by rw[OM];exact lV t s
theorem yk:∀(l:List Tree) (s:df) (j:List Int),InJ s j->Gw s (fS l s j).1/\InJ (fS l s j).1 (fS l s j).2/\(fS l s j).2.length<=j.length+l.length
 | [],s,j,h=>by rw[fS];exact⟨Gw.refl s,h,Zah _⟩
 | t::l,s,j,h=>by
  have hf:=lV t
  rw[fS]
  split
  ·exact⟨Gw.refl s,h,by simp only;omega⟩
  ·split
   ·exact⟨hf s,λe v hv=>by have:=h ((hf s).low e) v hv;have:=(hf s).len;simp only;omega,by simp only;omega⟩
   ·obtain⟨u1,u2⟩:=Ly hf s
    obtain⟨a1,a2,a3⟩:=yk l (vg (λs=>iW t s) s).1 (j++[(vg (λs=>iW t s) s).2]) (h.more u1 u2)
    exact⟨u1.trans a1,a2,by simp only[Zab,Zae,Zak] at a3 ⊢;omega⟩
end
def QfY (f:FuncId) (Y:Type) (c:Y->df) (zy:List (AV D.E)->St D.E->C Y) (pre:Y->Prop) (args:Y->List (AV D.E)) (to:Y->df):bf D:=⟨f,Y,zy,pre,λy=>.ptr 0 0::args y,λy=>Jl 1 (c y),λ_=>.tuple [],λy=>Jl 2 (to y),2,3⟩
def eu (y:df×Tree):df:=lk (iW y.2 y.1)
def CH (y:df×Tree):Prop:=y.1.code.length<=400/\Gg y.2
def Jm:bf D:=QfY 61 (df×Tree) (·.1) (λa s=>match a with
 | [p,t]=>av (VK p s) λc=>av (Iq t) λt=>.ret (c,t)
 | _=>.fail) CH (λy=>[.agg (D.aX 15 y.2)]) eu
def kn (y:df×List Tree):df×List Int:=lk (fS y.2 y.1 [])
def n9 (y:df×List Tree) (j:Nat):df:=lk (dR (kZ (kn y).1.code.length) (kn y).1 ((kn y).2.take j))
def yl (y:df×List Tree):df:=lk (n9 y (kn y).2.length)
def QlJ (y:df×List Tree):Prop:=y.1.code.length<=400/\y.1.bD=false/\y.2.length<=1000000/\∀t∈y.2,Gg t
def Od:bf D:=QfY 92 (df×List Tree) (·.1) (λa s=>match a with
 | [p,l]=>av (VK p s) λc=>av (rowsOf D s 15 l) λl=>.ret (c,(l:List Tree))
 | _=>.fail) QlJ (λy=>[.list 15 y.2]) yl
structure Pp where
 c:df
 n:Nd
 k:Tree
def ko (y:Pp):df:=lk (z1 (iW y.k) (jX y.k) y.n.mn.toNat y.c)
def rq (y:Pp):Nat:=lk (kY y.n.mn y.n.mx)
def iv (y:Pp):df×List Int:=lk (jY (iW y.k) (rq y) (ko y) [])
def oF (y:Pp) (j:Nat):df:=lk (dR (fx (iv y).1.code.length y.n.lz) (iv y).1 ((iv y).2.take j))
def pA (y:Pp):df:=lk (yj (iW y.k) (jX y.k) y.n.mn y.n.mx y.n.lz y.c)
def QlK (y:Pp):Prop:=y.c.code.length<=400/\y.c.bD=false/\Gg y.k/\0<=y.n.mn/\y.n.mn<=30/\(y.n.mx= -1\/(y.n.mn<=y.n.mx/\y.n.mx<=30))
def Oe:bf D:=QfY 93 Pp (·.c) (λa s=>match a with
 | [p,n,t]=>av (VK p s) λc=>av (QeM n) λn=>av (Iq t) λt=>.ret ⟨c,n,t⟩
 | _=>.fail) QlK (λy=>[.agg (D.aX 7 y.n),.agg (D.aX 15 y.k)]) pA
def fnO (n:Nat):vE:=[Jm.under (λy=>2*cZ y.2) n,Od.under (λy=>2*uA y.2+1) n,Oe.under (λy=>2*cZ y.k+1) n]
def QlL (y:Jm.Y):cH D:=⟨[],[],[(1978,⟨df×Nat,[0],λx=>[(3,.ptr 2 0),(4,Qu9 x.2)],[],λx=>Jl 3 x.1++[ve 2 y.2],4,λx=>x.2<=y.2.kids.length/\Gw y.1 x.1/\ll (y.2.kids.drop x.2) x.1=ll y.2.kids y.1,λx=>y.2.kids.length-x.2⟩)],[],1,[]⟩
def Qtm (y:Jm.Y):Prop:=vc (fnO (2*cZ y.2)++[zl]) Tryz.f61 Jm QlL y
structure VN where
 s:df
 j:List Int
 i:Nat
def VO (y:df×List Tree) (x:VN):Prop:=x.i<=y.2.length/\Gw y.1 x.s/\x.j.length<=x.i/\fS (y.2.drop x.i) x.s x.j=fS y.2 y.1 []
def QlM (y:Od.Y):cH D:=⟨[],[],[
 (26,⟨VN,[0,1],λx=>[(4,.grow 5 x.j 3),(5,Qu9 x.i)],[],λx=>Jl 2 x.s++[uZ 3],4,VO y,λx=>y.2.length-x.i⟩),
 (30,⟨Nat,[0],λj=>[(4,.grow 5 (kn y).2 3),(7,Qu9 j)],[],λj=>Jl 2 (n9 y j)++[uZ 3],4,λj=>j<=(kn y).2.length,λj=>(kn y).2.length-j⟩)],
 [(3,⟨Unit,[0],λ_=>[(4,.grow 5 (kn y).2 3)],[],λ_=>Jl 2 (kn y).1++[uZ 3],4,λ_=>True,λ_=>0⟩)],1,[]⟩
def Qtn (y:Od.Y):Prop:=vc (fnO (2*uA y.2+1)++[zl]) Tryz.f92 Od QlM y
def crN (y:Pp):Nat×AO D.E:=(2,.cells (D.aX 7 y.n) 131 false)
def crB (y:Pp):List (Nat×AO D.E):=[crN y,ve 3 y.k]
def crI (y:Pp) (x:df×Nat):Prop:=x.2<=y.n.mn.toNat/\Gw y.c x.1/\z1 (iW y.k) (jX y.k) (y.n.mn.toNat-x.2) x.1=ko y
def crJ (y:Pp) (x:VN):Prop:=x.i<=rq y/\Gw (ko y) x.s/\x.j.length<=x.i/\jY (iW y.k) (rq y-x.i) x.s x.j=iv y
def QlO (y:Oe.Y):cH D:=⟨[],[],[
  (58,⟨df×Nat,[0,6],λx=>[(4,.ptr 2 0),(5,.ptr 3 0),(7,Qu9 x.2)],[],λx=>Jl 4 x.1++crB y,5,crI y,λx=>y.n.mn.toNat-x.2⟩),
  (506,⟨VN,[0],λx=>[(4,.ptr 2 0),(5,.ptr 3 0),(9,.grow 5 x.j 5),(10,Qu9 (y.n.mn+(x.i:Nat)))],[],λx=>Jl 4 x.s++crB y++[uZ 5],6,crJ y,λx=>rq y-x.i⟩),
  (510,⟨Nat,[0],λj=>[(4,.ptr 2 0),(9,.grow 5 (iv y).2 5),(11,Qu9 j)],[],λj=>Jl 4 (oF y j)++[crN y,uZ 5],6,λj=>j<=(iv y).2.length,λj=>(iv y).2.length-j⟩)],
  [(7,⟨Unit,[0],λ_=>[(4,.ptr 2 0),(5,.ptr 3 0)],[],λ_=>Jl 4 (ko y)++crB y,5,λ_=>True,λ_=>0⟩),
   (63,⟨Unit,[0],λ_=>[(4,.ptr 2 0),(9,.grow 5 (iv y).2 5)],[],λ_=>Jl 4 (iv y).1++[crN y,uZ 5],6,λ_=>True,λ_=>0⟩)],1,[]⟩
def Qtq (y:Oe.Y):Prop:=vc (fnO (2*cZ y.k+1)++[zl,VL,FF]) Tryz.f93 Oe QlO y
end
end sx
end Go.Proofs.YtadfknojfbmjgaaGreat
