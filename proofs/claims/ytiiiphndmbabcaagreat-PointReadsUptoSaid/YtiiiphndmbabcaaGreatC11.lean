/- PointReads: a part of the proof. -/
import Derived.Test.YtiiiphndmbabcaaGreatC10
import Derived.Test.YtiiiphndmbabcaaGreatC9
import Derived.Deep.RegionHeld3
import Derived.Maps.OwnOps
import Derived.Maps.Views
import Derived.Maps.OwnSet
import Derived.Test.YtiiiphndmbabcaaGreatC5
import Derived.Test.YtiiiphndmbabcaaGreatC4
set_option linter.all false
namespace Go.Proofs.YtiiiphndmbabcaaGreat
open Go.Proofs.Tryz
set_option maxRecDepth 100000
set_option maxHeartbeats 4000000
namespace sx
noncomputable section
open Go Go.RowKit cls syn
theorem mb (t:ah):(nrm t).op=t.op:=by rw[jo];rfl
theorem Wr (t:ah):(nrm t).r=t.r:=by rw[jo];rfl
theorem np (t:ah):(nrm t).ae=t.ae.map nrm:=by rw[jo];rfl
theorem oe (t:ah):nrm (nrm t)=nrm t:=by rw[<-yY,yX]
theorem sX (l:List ah):(l.map nrm).map nrm=l.map nrm:=by grind [List.map_congr_left,oe]
theorem Jq (op:Int) (l:List ah):aF op (l.map nrm)=(aF op l).map nrm:=by
 unfold aF;grind [List.flatMap_map,mb,np]
theorem OJ (l:List ah):ft (l.map nrm)=(ft l).map nrm:=by
 unfold ft;grind [List.flatMap_map,mb,np]
theorem ϲ (a b:ah):vD (nrm a) (nrm b)=vD a b:=by grind [LU,oe]
theorem LY:∀l s:List ah,e_ (s.map nrm) (l.map nrm)=(e_ s l).map nrm
 | [],s=>rfl
 | k::l,s=>by
  have h:=LY l (s++[k]);rw[ZcG] at h;rw[Zbl,e_,e_,List.any_map];have e:((λx=>vD x (nrm k))∘nrm)=λx=>vD x k:=funext λx=>ϲ x k
  grind
theorem Ws (o:List ah):ox (o.map nrm)=nrm (ox o):=by
 unfold ox;rw[Za2];by_cases h:o=[]
 ·subst h;rfl
 ·have a:o.length-1<o.length:=by have:=List.length_pos_iff.mpr h;omega
  grind
def OK (o:List ah) (k:ah):dL (o.map nrm) (nrm k)=(dL o k).map nrm:=by
 unfold dL;rw[Ws,mb,mb,Wr,Wr,Za2];split
 ·rw[List.map_set];congr 1
 ·simp
theorem y0:∀l o:List ah,bI (o.map nrm) (l.map nrm)=(bI o l).map nrm
 | [],o=>rfl
 | k::l,o=>by rw[Zbl,bI,bI,OK,y0 l]
def Wt (l:List ah):wq (l.map nrm)=(wq l).map nrm:=by
 unfold wq;rw[show e_ [] (l.map nrm)=(e_ [] l).map nrm from LY l []];exact y0 _ []
theorem LZ:∀(n:Nat) (l:List ah),iV n (l.map nrm)=(iV n l).map nrm
 | 0,l=>by rw[iV,iV,Wt]
 | n+1,l=>by
  rw[iV,iV,Wt,Za2,Za2];split
  ·exact LZ n _
  ·rfl
mutual
theorem L0:∀t:ah,ql (nrm t)=ql t
 | .mk op r mn mx lz cap nk ks=>by rw[nrm,ql,ql,FG ks]
theorem FG:∀l:List ah,kg (od l)=kg l
 | []=>by rw[od]
 | t::l=>by rw[od,kg,kg,L0 t,FG l]
end
variable {l:List ah}
theorem Wu (t:ah):fo (nrm t)=fo t:=by grind [fo,L0]
theorem y1 (l:List ah):(l.map nrm).getD 0 bF=nrm (l.getD 0 bF):=by
 cases l with
 | nil=>rfl
 | cons a l=>rfl
theorem FH (t:ah):bG (nrm t)=nrm (bG t):=by grind [bG,np,y1]
theorem jq (t:ah) (a:List ah):nrm (iU t a)=.mk t.op t.r t.mn t.mx t.lz t.cap a.length (a.map nrm):=by grind [iU,nrm,gD]
theorem L1 (t:ah):nrm (byD t)=nrm (byD (nrm t)):=by
 unfold byD;rw[mb];split
 ·unfold Jb;rw[np,OJ]
  match ft t.ae with
  | []=>rfl
  | [k]=>exact(oe k).symm
  | a::b::l=>
   show nrm (iU t (a::b::l))=nrm (iU (nrm t) ((a::b::l).map nrm))
   rw[jq,jq,sX,Za2,jo t];rfl
 ·split
  ·unfold Je;rw[np,Jq,Za2,LZ]
   match iV (aF 4 t.ae).length (aF 4 t.ae) with
   | []=>show nrm (iU t [])=nrm (iU (nrm t) []);rw[jq,jq,jo t];rfl
   | [k]=>exact(oe k).symm
   | a::b::l=>
    show nrm (iU t (a::b::l))=nrm (iU (nrm t) ((a::b::l).map nrm))
    rw[jq,jq,sX,Za2,jo t];rfl
  ·split
   ·unfold cV;rw[FH,mb,Wu,FH,mb];have c:(nrm t).mn=t.mn/\(nrm t).mx=t.mx/\(nrm t).lz=t.lz/\(nrm t).cap=t.cap:=by rw[jo];exact⟨rfl,rfl,rfl,rfl⟩
    have e2:eN (Lk (vq (nrm t)))=eN (Lk (vq t)):=by rw[jo];cases t;rfl
    have d:eN (Lk (nrm (bG t)))=eN (Lk (bG t)):=by rw[jo];rfl
    rw[c.1,c.2.1,e2,d];split
    ·grind [oe]
    ·split
     ·grind [oe]
     ·split
      ·rfl
      ·split
       ·unfold EY;generalize bG t=k;rw[nrm,nrm,jo k];simp only[ah.op,ah.r,ah.mx,ah.mn,ah.lz,ah.cap,ah.ae,gD,sX,Za2]
       ·have e:∀u,nrm (vq u)=.mk u.op u.r u.mn u.mx (u.lz&&decide (u.mn≠u.mx)) u.cap u.ae.length (u.ae.map nrm):=λu=>by unfold vq;rw[nrm,gD]
        grind [mb,Wr,np,sX]
   ·grind [oe]
theorem uP {op:Int} (h:∀k∈l,eu k):∀k∈aF op l,eu k:=λt ht=>by
 grind [aF,kz]
theorem Jr (r:List Rg):eu (pC r):=by
 grind [pC,eu,uO]
theorem uQ:∀(l o:List ah),(∀k∈o,eu k)->(∀k∈l,eu k)->∀k∈bI o l,eu k
 | [],o,h,_=>by assumption
 | a::l,o,h,h2=>by
  rw[bI];refine uQ l _ (λk hk=>?_) λk hk=>h2 k (ZaU _ hk)
  grind [dL,Jr]
def OL (h:∀k∈l,eu k):∀k∈j6 l,eu k:=by
 rw[<-wv];exact uQ _ _ (λk hk=>nomatch hk) λk hk=>h k ((n9 l []).subset hk)
theorem y2:∀(n:Nat) (l:List ah),(∀k∈l,eu k)->∀k∈jJ n l,eu k
 | 0,l,h=>h
 | n+1,l,h=>by
  rw[jJ];split
  ·exact h
  ·exact y2 n _ (OL h)
theorem uR:∀(l o:List ah),(o≠[]\/l≠[])->bI o l≠[]
 | [],o,h=>by grind [bI]
 | a::l,o,_=>by
  rw[bI];refine uR l _ (.inl ?_);unfold dL;split
  ·simp_all
  ·simp
theorem OM (h:l≠[]):j6 l≠[]:=by
 rw[<-wv];refine uR _ _ (.inr ?_);cases l with
 | nil=>exact absurd rfl h
 | cons a l=>rw[e_];simp
theorem y3:∀(n:Nat) (l:List ah),l≠[]->jJ n l≠[]
 | 0,l,h=>h
 | n+1,l,h=>by
  rw[jJ];split
  ·exact h
  ·exact y3 n _ (OM h)
theorem FI (b:∀k∈l,eu k) (h:l≠[]):aF 4 l≠[]:=by
 cases l with
 | nil=>exact absurd rfl h
 | cons a l=>
  have c:=(kz a).mp (b a Za8);unfold aF;rw[Zbt];split
  ·simp_all
  ·simp
theorem y4 {op:Int} (h:∀k∈l,eu k) (c:op=3->∀k∈l,k.op≠1):eu (im op l):=by
 match l,h,c with
 | [],_,_=>rw[im,eu,uO];exact⟨λh=>absurd h (by decide),λh=>absurd h (by decide),trivial⟩
 | [k],h,_=>exact h k (by simp)
 | a::b::l,h,c=>
  grind [im,eu,Bu]
theorem Wv {t:ah} (hk:0<t.ae.length) (a:t.op=5) (h:∀k∈t.ae,eu k):eu (cV t):=by
 have K:eu (bG t):=by grind [bG]
 unfold cV;split
 ·exact K
 ·split
  ·exact K
  ·split
   ·grind [eu,uO]
   ·split
    ·rw[kz] at K ⊢;exact K
    ·rw[kz];exact⟨λe=>absurd (a.symm.trans e) (by decide),λe=>absurd (a.symm.trans e) (by decide),h⟩
theorem ϳ {t:ah} (hw:Ol ⟨t.op,t.r,t.mn,t.mx,t.lz,t.cap,t.ae.length⟩) (hk:∀k∈t.ae,eu k):nrm (byD t)=nrm (yD t)/\eu (yD t):=by
 have i:t.op=3\/t.op=4->t.r=[]/\t.mn=0/\t.mx=0/\t.lz=false/\t.cap=0:=λh=>by
  obtain⟨g,p⟩:=hw;grind [ck,NP]
 have o:∀{op:Int} {n:List ah},t.op=op->(op=3\/op=4)->nrm (iU t n)=nrm (.mk op [] 0 0 false 0 0 n):=λh j=>by
  grind [jq,nrm,gD]
 unfold byD yD;by_cases e:t.op=3
 ·rw[Zac e,Zac e];have f:∀k∈hV (aF 3 t.ae),eu k:=λk c=>uP hk k (List.mem_filter.mp c).1
  constructor
  ·unfold Jb EV;rw[Wq hk]
   match hV (aF 3 t.ae) with
   | []=>rfl
   | [k]=>rfl
   | a::b::l=>exact o e (.inl rfl)
  ·unfold EV;refine y4 f λ_ k c=>?_
   have:=(List.mem_filter.mp c).2;grind [wg]
 ·rw[Zaa e,Zaa e];by_cases d:t.op=4
  ·rw[Zac d,Zac d];have j:t.ae≠[]:=by
    have:=hw.aH d;grind
   have f:=y2 (aF 4 t.ae).length _ (uP (op:=4) hk);have hs:=y3 (aF 4 t.ae).length _ (FI hk j);constructor
   ·unfold Je CD;rw[LX _ _ (Zah _)];generalize jJ (aF 4 t.ae).length (aF 4 t.ae)=L at hs
    match L,hs with
    | [k],_=>rfl
    | a::b::l,_=>exact o d (.inr rfl)
   ·exact y4 f λh=>absurd h (by decide)
  ·rw[Zaa d,Zaa d];by_cases m:t.op=5
   ·rw[Zac m];have:=(hw.rep m).1;grind [Wv]
   ·grind [kz]
mutual
noncomputable def fa:ah->ah
 | .mk op r mn mx lz cap nk ks=>byD (.mk op r mn mx lz cap nk (cW ks))
noncomputable def cW:List ah->List ah
 | []=>[]
 | t::l=>fa t::cW l
end
mutual
theorem Bv:∀t:ah,ku t->nrm (fa t)=nrm (j7 t)/\eu (j7 t)
 | .mk op r mn mx lz cap nk ks,h=>by
  rw[ku] at h
  obtain⟨i1,i2⟩:=rF ks h.2.2
  have hl:=qo ks
  obtain⟨b1,b2⟩:=ϳ (t:=.mk op r mn mx lz cap nk (dC ks)) (by simp only[ah.ae];rw[hl];exact h.1) i2
  rw[fa,j7]
  refine⟨?_,b2⟩
  rw[<-b1,L1,L1 (.mk op r mn mx lz cap nk (dC ks))]
  have:nrm (.mk op r mn mx lz cap nk (cW ks))=nrm (.mk op r mn mx lz cap nk (dC ks)):=by
   rw[nrm,nrm,gD,gD,i1]
   have:=ZaR List.length i1
   rw[Za2,Za2] at this
   rw[this]
  rw[this]
theorem rF:∀l:List ah,nf l->(cW l).map nrm=(dC l).map nrm/\∀k∈dC l,eu k
 | [],_=>⟨by rw[cW,dC],λk hk=>by rw[dC] at hk;cases hk⟩
 | t::l,h=>by
  rw[nf] at h
  obtain⟨a1,a2⟩:=Bv t h.1
  obtain⟨b1,b2⟩:=rF l h.2
  rw[cW,dC]
  refine⟨by rw[Zbl,Zbl,a1,b1],λk hk=>?_⟩
  rcases List.mem_cons.mp hk with e | e
  ·rw[e];exact a2
  ·exact b2 k e
end
def Bw {t:ah} (h:ku t):aD (fa t)=aD (j7 t):=(yY _ _).mpr (Bv t h).1
end
end sx
namespace sx
open Go Go.RowKit cls syn sl
noncomputable abbrev H0:Hp D:=λt=>cA [] t
structure Qs (F:List Nat) (M:Pm D) (w:World) (M':Pm D) (w':World):Prop where
 le:Le M M'
 fJ:ee M' H0 w'
 pl:∀b,M'.pl b=M.pl b
 sb:∀b o,M'.sg b o≠none->M.sg b o≠none\/w.heap.size<=b\/b∈F
 size:w.heap.size<=w'.heap.size
 aO:∀c,c<w.heap.size->c ∉ F->w'.heap[c]?=w.heap[c]?
 os:w'.os=w.os
 tape:w'.tape=w.tape
 output:w'.output=w.output
variable {F F':List Nat} {M M' M'':Pm D} {w w' w'':World}
theorem Qs.refl (h:ee M H0 w):Qs F M w M w:=⟨l4 M,h,λ_=>rfl,λ_ _ h=>.inl h,Zah _,λ_ _ _=>rfl,rfl,rfl,rfl⟩
theorem Qs.trans (h:Qs F M w M' w') (k:Qs F' M' w' M'' w'') (a:∀c∈F',c∈F\/w.heap.size<=c):Qs F M w M'' w'' where
 le:=⟨λb m e=>k.le.1 b m (h.le.1 b m e),λb o v e=>k.le.2 b o v (h.le.2 b o v e)⟩
 fJ:=k.fJ
 pl b:=(k.pl b).trans (h.pl b)
 sb b o e:=by
  rcases k.sb b o e with e | e | e
  ·exact h.sb b o e
  ·exact .inr (.inl (Zav h.size e))
  ·grind
 size:=Zav h.size k.size
 aO c hc hn:=(k.aO c (ZbB hc h.size) λe=>(a c e).elim hn λh=>ω).trans (h.aO c hc hn)
 os:=k.os.trans h.os
 tape:=k.tape.trans h.tape
 output:=k.output.trans h.output
theorem Qs.GF (a:cU H0 M w H0 M' w' 0 0):Qs F M w M' w' where
 le:=⟨λb m e=>(a.ext b ω).trans e,a.J7⟩
 fJ:=a.fJ
 pl b:=a.ext b ω
 sb b o e:=by
  rcases a.lP b o e with e | e | ⟨c,f,d,h1,_⟩
  ·grind
  ·omega
  ·cases h1
 size:=a.size
 aO c hc _:=a.aO c hc λ⟨c,f,d,h1,_⟩=>by cases h1
 os:=a.os
 tape:=a.tape
 output:=a.output
def Qs.Qk6 (h:ee M H0 w) (hs:w.heap.size<=w'.heap.size) (g:w'.os=w.os) (ht:w'.tape=w.tape) (hu:w'.output=w.output) (hk:∀c,c<w.heap.size->c ∉ F->w'.heap[c]?=w.heap[c]?) (f:∀c∈F,D.ng<=c/\∀o,M.sg c o=none):Qs F M w M w':=
 ⟨l4 M,⟨λb o e=>(by cases e),λ_ _ _ _ _ _ e=>(by cases e),λb o v e=>let ⟨i,k,d,j⟩:=h.gR b o v e;⟨i,k,(gk (hk b (h.slt e) λa=>by rw[(f b a).2] at e;cases e)).trans d,j⟩,λ_ _ _ e=>(by cases e),λ_ _ _ _ _ e=>(by cases e),
  ⟨Zav h.mh.1.1 hs,D.gst _ _ (λc d=>hk c (ZbB d h.mh.1.1) λa=>by have:=(f c a).1;omega) h.mh.1.2⟩,λ_ _ _ e=>(by cases e)⟩,λ_=>rfl,λ_ _ h=>.inl h,hs,hk,g,ht,hu⟩
theorem Qs.gR {g:Nat} {ys:List ah} (h:ee M H0 w) (j:∀o,M.sg g o=none) (m:g∈F)
  (f:∀i v,(aV (D:=D) 15 ys)[i]?=some v->∃a,w.cell? ⟨g,i,none⟩=some a/\VR M v a):Qs F M w ⟨M.pl,df M.sg g 0 (aV 15 ys)⟩ w:=by
 have hle:Le M ⟨M.pl,df M.sg g 0 (aV 15 ys)⟩:=⟨λ_ _ h=>h,kG λq _ _=>j q⟩;refine⟨hle,⟨λb o e=>(by cases e),λ_ _ _ _ _ _ e=>(by cases e),λb q v e=>?_,λ_ _ _ e=>(by cases e),λ_ _ _ _ _ e=>(by cases e),⟨h.mh.1,λ_ _ _ e=>(by cases e)⟩⟩,λ_=>rfl,λb q e=>?_,Zah _,λ_ _ _=>rfl,rfl,rfl,rfl⟩
 ·replace e:df M.sg g 0 (aV 15 ys) b q=some v:=e;unfold df at e;split at e
  ·rename_i d
   obtain⟨rfl,h1,l⟩:=d;obtain⟨a,c,e2⟩:=f _ v e;rw[Zdp] at c;exact⟨(ef fL (ZaJ e)).2,a,c,e2.mono hle⟩
  ·obtain⟨k,a,c,e2⟩:=h.gR b q v e;exact⟨k,a,c,e2.mono hle⟩
 ·grind [mw]
theorem Ww {a:Value} {l:List E8} {ys:List ah} (h:ee M H0 w) (p:qH w a l) (m:LR M (aV (D:=D) 15 ys) (flat e8 l)) (j:∀c∈h_ a,∀o,M.sg c o=none) (hl:l.length=ys.length):∃f,Qs (h_ a) M w f w/\VR f (.list 15 ys) a:=by
 rcases p.2 with⟨rfl,d⟩ | ⟨g,cap,a8,rfl,d,q,r,k,s,t⟩
 ·rw[hl] at d;rw[Zap d];exact⟨M,.refl h,.ed⟩
 ·have n:h_ (.slice (some ⟨g,0,none⟩) l.length cap)=[g]:=rfl;rw[n] at j ⊢;refine⟨_,Qs.gR (ys:=ys) h (j g (ZaI.2 rfl)) (ZaI.2 rfl) λi v e=>?_,?_⟩
  ·obtain⟨y,u,x⟩:=m.get e;grind [World.cell?]
  ·rw[hl];exact VR.list (b:=g) (o:=0) (cz.add fL) (show ys.length<=9223372036854775807 by unfold maxLen at k;omega) (show ys.length<=cap by omega)
theorem Bx:∀l:List ah,(ft l).length<=(aA l).length
 | []=>Zaj _
 | k::l=>by
  have h:=Bx l;grind [eH,bT,ft,tN]
theorem og:∀l:List ah,(cW l).length=l.length
 | []=>by rw[cW]
 | t::l=>by rw[cW,Zae,og l,Zae]
def Qk7 {op:Int} {r:List Rg} {mn mx:Int} {lz:Bool} {cap:Int} {a:List ah} (hw:ku (.mk op r mn mx lz cap (a.length:Int) a)) (ht:dO (.mk op r mn mx lz cap (a.length:Int) a)):
  (op=3->Jc.pre (.mk op r mn mx lz cap (a.length:Int) (cW a)))/\(op=4->Jf.pre (.mk op r mn mx lz cap (a.length:Int) (cW a)))/\(op=5->Jg.pre (.mk op r mn mx lz cap (a.length:Int) (cW a))):=by
 have hi:=(jx _).mp (E_ _ hw);have hk:=ht.ae;obtain⟨o,b⟩:=nX a hi.2 ⟨Zah _,hk.2⟩;rw[ku] at hw;obtain⟨j,v⟩:=rF a hw.2.2;have e:aA (cW a)=aA (dC a):=by rw[<-qz,gD,j,<-gD,qz]
 rw[<-e] at b;have hl:=og a;have i:dT (cW a):=⟨Zav b.1 hk.1,b.2⟩;have m:a.length<=1000000:=hk.len;refine⟨λ_=>⟨by show(cW a).length<=_;omega,Zav (Bx _) i.1⟩,λ_=>⟨by show(cW a).length<=_;omega,?_⟩,λh=>⟨?_,h⟩⟩
 ·have:=nc 4 _ _ b;exact⟨Zav this.1 hk.1,this.2⟩
 ·obtain⟨b1,k⟩:=hi.1 h;have b1:1<=a.length:=b1;have c:0<(cW a).length:=ω;refine⟨by show 1<=(cW a).length;omega,i.get c,k,λl=>?_⟩;have d:0<(dC a).length:=by rw[qo];omega
  have f:nrm ((cW a).getD 0 bF)=nrm ((dC a).getD 0 bF):=by rw[<-y1,j,y1]
  have g:sL ((dC a).getD 0 bF):=by rw[eL d];exact(kh _).mp o _ (Zas _)
  have n:((dC a).getD 0 bF).op=5:=by rw[<-mb,<-f,mb];exact l
  obtain⟨c1,c2⟩:=((jx _).mp g).1 n;rw[jo,jo] at f;injection f with p q s t u n6 n7 n8
  refine⟨?_,?_⟩
  ·show 0<=((cW a).getD 0 bF).mn
   omega
  ·show 1<=((cW a).getD 0 bF).ae.length
   omega
end sx
namespace sx
open Go Go.RowKit cls syn sl
set_option maxRecDepth 100000
theorem Wx {w:World} {g n c k:Nat} {ld lr:List E8} {x:E8} (h:qH w (.slice (some ⟨g,0,none⟩) n c) (ld++x::lr)) (b:(ld++x::lr).length=n) (hk:ld.length=k):
  (∀j u,j<8->x.1[j]?=some u->w.cell? ⟨g,k*8+j,none⟩=some u)/\(∀o,w.frozen? ⟨g,o,none⟩=false)/\g<w.heap.size:=by
 subst b;subst hk;refine⟨λj u a e=>(h.cellAt rfl IW (i:=ld.length) (x:=x) (by simp) a e).1,λo=>World.ownsRow.frozenAt h o,?_⟩;obtain⟨f,d,e,_,l,_⟩:=h.form (by simp);grind
noncomputable def FJ (l:List ah):List (AV D.E):=l.flatMap λt:ah=>D.a_ 15 t
structure SL (M:Pm D) (w:World) (ks:List ah) (G:List Nat) (kv:Value) (k:Nat) (wr:World) (Mk:Pm D) (ld lr:List E8) (Gr:List Nat):Prop where
 own:qH wr kv (ld++lr)
 len:ld.length=k
 rows:LR Mk (FJ ((cW ks).take k)) (flat e8 ld)
 ae:KA Mk wr (ks.drop k) lr Gr
 sub:∃Gd,G=Gd++Gr
 un:∀c∈h_ kv++Gr,∀o,Mk.sg c o=none
 un2:∀o,Mk.sg (w.heap.size+1) o=none
 qs:Qs (h_ kv++G) M w Mk wr
abbrev Bz (w:World) (b o:Nat) (a c d v3 e v5 f g:Value):World:=(((((((w.setCell ⟨b,o,none⟩ a).setCell ⟨b,o+1,none⟩ c).setCell ⟨b,o+2,none⟩ d).setCell ⟨b,o+3,none⟩ v3).setCell ⟨b,o+4,none⟩ e).setCell ⟨b,o+5,none⟩ v5).setCell ⟨b,o+6,none⟩ f).setCell ⟨b,o+7,none⟩ g
variable {a c d Z e Y i g:Value} {w:World} {b o k:Nat} {M:Pm D} {X W:List E8}
def l7 (h:k≠b):(Bz w b o a c d Z e Y i g).heap[k]?=w.heap[k]?:=by
 unfold Bz;rw[ka h,ka h,ka h,ka h,ka h,ka h,ka h,ka h]
theorem ϵ {j:Nat} {x y:E8} (h:qH w (.slice (some ⟨b,0,none⟩) o k) (X++x::W)) (p:(X++x::W).length=o) (hk:X.length=j) (q:y.1=[a,c,d,Z,e,Y,i,g]):
  qH (Bz w b (j*8) a c d Z e Y i g) (.slice (some ⟨b,0,none⟩) o k) (X++y::W):=by
 subst p;have s:=(World.ownsRow.stored (World.ownsRow.stored (World.ownsRow.stored (World.ownsRow.stored (World.ownsRow.stored (World.ownsRow.stored (World.ownsRow.stored (World.ownsRow.stored h (j*8) a).1 (j*8+1) c).1 (j*8+2) d).1 (j*8+3) Z).1 (j*8+4) e).1 (j*8+5) Y).1 (j*8+6) i).1 (j*8+7) g).1;have f:((((((((flat e8 (X++x::W)).set (j*8) a).set (j*8+1) c).set (j*8+2) d).set (j*8+3) Z).set (j*8+4) e).set (j*8+5) Y).set (j*8+6) i).set (j*8+7) g=flat e8 (X++y::W):=by
  obtain⟨l,hl,_⟩:=x;obtain⟨a0,l,rfl⟩:=ZaB (show l.length=7+1 from hl);obtain⟨r,l,rfl⟩:=ZaB (show l.length=6+1 by simpa using hl);obtain⟨a2,l,rfl⟩:=ZaB (show l.length=5+1 by simpa using hl);obtain⟨a3,l,rfl⟩:=ZaB (show l.length=4+1 by simpa using hl);obtain⟨a4,l,rfl⟩:=ZaB (show l.length=3+1 by simpa using hl);obtain⟨a5,l,rfl⟩:=ZaB (show l.length=2+1 by simpa using hl);obtain⟨t,l,rfl⟩:=ZaB (show l.length=1+1 by simpa using hl);obtain⟨u,l,rfl⟩:=ZaB (show l.length=0+1 by simpa using hl);obtain rfl:l=[]:=by simpa using hl
  have n:(flat e8 X).length=j*8:=by rw[nj IW,hk]
  have m:∀(z:E8),flat e8 (z::W)=z.1++flat e8 W:=λz=>rfl
  rw[jN,jN,m,m,q,<-n];simp_all
 grind [j_]
theorem jO:Below b w (Bz w b o a c d Z e Y i g):=by
 unfold Bz;have k:∀(W:World) (f:Nat) (v:Value),Below b w W->Below b w (W.setCell ⟨b,f,none⟩ v):=λW f v h=>h.setCell (Zah _) v
 grind [Below.refl]
def DB {l:List (AV D.E)} {A:Array Value} (h:VR M (.agg l) (.agg A)):LR M l A.toList:=by
 cases h with | agg h1 a=>exact⟨h1,a⟩
theorem Js (l:List ah):cW l=l.map fa:=by
 induction l with
 | nil=>rw[cW];rfl
 | cons t l a=>rw[cW,a];rfl
theorem SL.round {v:List ah} {G:List Nat} {I:Nat} {wr:World} {C s:Pm D} {j m:List Nat} {U:E8} {O:World} {T:ah}
  (h:SL M w v G (.slice (some ⟨b,0,none⟩) o k) I wr C X (U::W) (j++m)) (S:KA C wr (v.drop (I+1)) W m) (hk:v[I]?=some T) (hn:(X++U::W).length=o)
  (z:(h_ (.slice (some ⟨b,0,none⟩) o k)++G).Nodup) (lr:∀N∈h_ (.slice (some ⟨b,0,none⟩) o k)++G,D.ng<=N/\N<w.heap.size) (hs:w.heap.size+2<=wr.heap.size)
  (t:Qs j C wr s O) (hv:VR s (.agg (D.a_ 15 (fa T))) (.agg #[a,c,d,Z,e,Y,i,g])) (h1:∀u∈[a,c,d,Z,e,Y,i,g],u.oneCell'):
  SL M w v G (.slice (some ⟨b,0,none⟩) o k) (I+1) (Bz O b (I*8) a c d Z e Y i g) s (X++[⟨[a,c,d,Z,e,Y,i,g],rfl,h1⟩]) W m:=by
 have H:h_ (.slice (some ⟨b,0,none⟩) o k)=[b]:=rfl;obtain⟨ld,Q⟩:=h.sub;rw[H] at z lr;have r:=h.un;rw[H] at r;have J:=List.nodup_cons.1 (show(b::G).Nodup from z);have l:∀N∈j++m,N∈G:=λN H=>by rw[Q];exact ZaC _ H
 have y:b ∉ j:=λK=>J.1 (l b (Zay _ K))
 have P:(j++m).Nodup:=by rw[Q] at J;exact(ZbR.1 J.2).2.1
 have p:∀N∈m,N ∉ j/\N≠b:=λN H=>⟨λK=>(ZbR.1 P).2.2 N K N H rfl,λK=>J.1 (by rw[<-K];exact l N (ZaC _ H))⟩
 have q:∀N∈[b]++(j++m),D.ng<=N/\N<w.heap.size:=λN H=>lr N ((Zax.1 H).elim (λh=>Zay _ h) λh=>ZaC _ (l N h))
 have R:=q b (by simp);have L:∀N,N<wr.heap.size->N ∉ j->(∀n,C.sg N n=none)->∀n,s.sg N n=none:=λN h1 v3 E n=>by
  cases K:s.sg N n with
  | none=>rfl
  | some u=>
   rcases t.sb N n (by rw[K];simp) with V | V | V
   ·grind
   ·omega
   ·grind
 have B:qH O (.slice (some ⟨b,0,none⟩) o k) (X++U::W):=nm h.own λN f hl=>t.aO N hl (by rw[H,ZaI] at f;rw[f];exact y)
 have x:=L b ω y λn=>r b (by simp) n
 have A:Qs ([b]++G) M w s O:=(h.qs).trans t λN H=>.inl (ZaC _ (l N (Zay _ H)))
 refine⟨?_,by simp[h.len],?_,qw t.le _ _ _ S λN H hl=>(l7 (p N H).2).trans (t.aO N hl (p N H).1),⟨ld++j,by rw[Q,ZaD]⟩,λN f=>?_,L _ ω (λK=>by have:=(q _ (ZaC _ (Zay _ K))).2;omega) h.un2,?_⟩
 ·rw[ZaD];exact ϵ B hn h.len rfl
 ·have v5:FJ ((cW v).take (I+1))=FJ ((cW v).take I)++D.a_ 15 (fa T):=by
   rw[Zcr,Js,Zbk,hk];simp[FJ]
  rw[v5,jN];refine(h.rows.mono t.le).app ?_;obtain⟨j1,j2⟩:=DB hv;exact⟨j1,j2⟩
 ·rw[H] at f;have v3:=q N ((Zax.1 f).elim (λh=>Zay _ h) λh=>ZaC _ (ZaC _ h));rcases Zax.1 f with E | E
  ·grind
  ·exact L N ω (p N E).1 λn=>r N (by simp[E]) n
 ·refine A.trans (Qs.Qk6 (F:=[b]) A.fJ jO.size jO.os jO.tape jO.output (λN _ H=>l7 (by simpa using H)) λN H=>by rw[ZaI.1 H];exact⟨R.1,x⟩) λN H=>.inl (Zay _ H)
theorem FK {T:ah} (h:VR M (.agg (D.a_ 15 T)) a):∃(e:Option Addr) (g f:Nat) (i:Option Addr) (un j:Nat),a=.agg #[.int .i64 T.op,.slice e g f,.int .i64 T.mn,.int .i64 T.mx,.bool T.lz,.int .i64 T.cap,.int .i64 T.nk,.slice i un j]:=by
 cases h with | @agg _ A h1 d=>?_
 obtain⟨l⟩:=A;have h:LR M (D.a_ 15 T) l:=⟨h1,d⟩;cases T;obtain⟨k,l,rfl,a0,h⟩:=h.aM;obtain⟨m,l,rfl,v,h⟩:=h.aM;obtain⟨n,l,rfl,a2,h⟩:=h.aM;obtain⟨v3,l,rfl,a3,h⟩:=h.aM;obtain⟨o,l,rfl,a4,h⟩:=h.aM;obtain⟨v5,l,rfl,a5,h⟩:=h.aM;obtain⟨p,l,rfl,b,h⟩:=h.aM;obtain⟨q,l,rfl,c,h⟩:=h.aM;obtain rfl:=h.jA;obtain rfl:=fE a0;obtain⟨_,_,_,rfl⟩:=Bn v;obtain rfl:=fE a2;obtain rfl:=fE a3;obtain rfl:=nZ a4;obtain rfl:=fE a5;obtain rfl:=fE b;obtain⟨_,_,_,rfl⟩:=Bn c;grind
abbrev z8:Array Value:=#[.int .i64 0,.slice none 0 0,.int .i64 0,.int .i64 0,.bool false,.int .i64 0,.int .i64 0,.slice none 0 0]
theorem wx {F:List Nat} {M a:Pm D} {w j:World} {T:ah} {d e f v3 g v5 h i:Value} (k:Qs F M w a j) (hz:j.heap[w.heap.size+1]?=some (.cells z8 221 (0,0))) (n:∀o,a.sg (w.heap.size+1) o=none) (m:D.ng<=w.heap.size)
  (l:VR a (.agg (D.a_ 15 T)) (.agg #[d,e,f,v3,g,v5,h,i])):
  ∃W,W=(((((((j.setCell ⟨w.heap.size+1,0,none⟩ d).setCell ⟨w.heap.size+1,1,none⟩ e).setCell ⟨w.heap.size+1,2,none⟩ f).setCell ⟨w.heap.size+1,3,none⟩ v3).setCell ⟨w.heap.size+1,4,none⟩ g).setCell ⟨w.heap.size+1,5,none⟩ v5).setCell ⟨w.heap.size+1,6,none⟩ h).setCell ⟨w.heap.size+1,7,none⟩ i/\Qs F M w a W/\
   (loadVar 221 ⟨w.heap.size+1,0,none⟩).run prog W=.ok (.agg #[d,e,f,v3,g,v5,h,i]) W:=by
 refine⟨_,rfl,k.trans (Qs.Qk6 (F:=[w.heap.size+1]) k.fJ lx.size lx.os lx.tape lx.output (λb _ c=>yM (by simpa using c)) λb c=>?_) λb c=>.inr (by rw[ZaI.1 c];omega),?_⟩
 ·grind
 ·exact run_loadVar_row (P:=prog) _ (w.heap.size+1) _ 221 _ _ _ (Bo hz rfl) Tryz.underlying221 rfl (by kernel_rfl)
theorem y5 {f:FuncId} {oM:List (AV D.E)->St D.E->C ah} {pre:ah->Prop} {res:ah->ah} (h:Ok (bO f ah oM pre (λy=>[.agg (D.a_ 15 y)]) λy=>.agg (D.a_ 15 (res y)))) {y:ah} (q:pre y) {M:Pm D} {w:World} {A:Array Value} {a:Nat} (o:ee M H0 w) (p:TF M 0)
  (n:VR M (.agg (D.a_ 15 y)) (.agg A)) (hz:w.heap[a]?=some (.cells z8 221 (0,0))):
  Calls prog f #[.agg A] w λe b=>∃(l:Pm D) (c:Option Addr) (g d:Nat) (i:Option Addr) (un k:Nat),
   e=.returned (.agg #[.int .i64 (res y).op,.slice c g d,.int .i64 (res y).mn,.int .i64 (res y).mx,.bool (res y).lz,.int .i64 (res y).cap,.int .i64 (res y).nk,.slice i un k])/\
   VR l (.agg (D.a_ 15 (res y))) (.agg #[.int .i64 (res y).op,.slice c g d,.int .i64 (res y).mn,.int .i64 (res y).mx,.bool (res y).lz,.int .i64 (res y).cap,.int .i64 (res y).nk,.slice i un k])/\
   Qs [] M w l b/\b.heap[a]?=some (.cells z8 221 (0,0))/\(∀j,b.cell? ⟨a,j,none⟩=z8[j]?)/\∀j,b.frozen? ⟨a,j,none⟩=false:=by
 refine h.2 y q M #[.agg A] w (.cons n .nil) o p _ λm v u s hs=>?_
 obtain⟨c,g,d,i,un,k,rfl⟩:=FK s;have r:Qs [] M w m u:=Qs.GF hs;have t:=(r.aO a (CR hz) (by simp)).trans hz;grind [iT,LF]
set_option maxHeartbeats 4000000 in
theorem QfG (g1:Ok Jc) (g2:Ok Jf) (g3:Ok Jg):∀(n:Nat) (t:ah) (x:E8) (F:List Nat) (M:Pm D) (w:World),(aD t).length<=n->ku t->dO t->TA M w t x F->F.Nodup->(∀c∈F,D.ng<=c/\∀o,M.sg c o=none)->ee M H0 w->TF M 0->
  Calls prog 131 #[.agg x.1.toArray] w λe w'=>∃M' v',e=.returned v'/\VR M' (.agg (D.a_ 15 (fa t))) v'/\Qs F M w M' w':=by
 intro n
 induction n with
 | zero=>
  intro t x F M w h
  cases t
  grind [aD]
 | succ n ih=>
  intro t x F M w hn hw ht E C hF hS hT
  obtain⟨op,r,mn,mx,lz,cap,nk,a⟩:=t
  have H:=hw
  rw[ku] at hw
  obtain⟨_,rfl,hks⟩:=hw
  replace H:=Qk7 H ht
  rw[aD] at hn
  rw[TA] at E
  obtain⟨vr,kv,l,G,hx,hvr,Y,ho,rfl,q⟩:=E
  obtain⟨ra,rn,rc,rfl⟩:=Bn hvr
  have hll:=IX q
  obtain⟨S,L,rfl,hrd,_⟩:=ho.rd
  rw[hll] at ho hF C hx ⊢
  rw[hx]
  have hL:a.length<=1000000:=ht.ae.len
  have T:Hid (∀b∈h_ (.slice S a.length L)++G,D.ng<=b/\b<w.heap.size):=Lib.hid λb hb=>⟨(hF b hb).1,(Zax.1 hb).elim (wk ho b) (VL _ _ _ q b)⟩
  have H1:=Lib.hid hx
  have H2:=Lib.hid ho
  have H3:=Lib.hid q
  have H4:=Lib.hid C
  have H5:=Lib.hid hF
  have H6:=Lib.hid H
  have H7:=Lib.hid ht
  have H8:=Lib.hid hll
  clear hx ho q C hF H ht hll hrd
  go_enter Tryz.func131,Tryz.ntmps131
  go_wp2_with fail
  have hzs:w.heap.size<w.heap.size+2:=ω
  go_loopg [3] a.length (λg i wr=>∃(k:Nat) (ld lr:List E8) (Gr:List Nat) (Mk:Pm D),k<=a.length/\g=a.length-k/\i=.int .i64 k/\
   wr.heap[w.heap.size]?=some (.cells #[.int .i64 op,.slice ra rn rc,.int .i64 mn,.int .i64 mx,.bool lz,.int .i64 cap,.int .i64 a.length,.slice S a.length L] 221 (0,0))/\
   wr.heap[w.heap.size+1]?=some (.cells #[.int .i64 0,.slice none 0 0,.int .i64 0,.int .i64 0,.bool false,.int .i64 0,.int .i64 0,.slice none 0 0] 221 (0,0))/\
   w.heap.size+2<=wr.heap.size/\SL M w a G (.slice S a.length L) k wr Mk ld lr Gr)
  case atStart=>
   refine⟨0,[],l,G,M,ω,rfl,rfl,?_,?_,by simp,?_⟩
   ·grind [Below.heap_alloc,heap_alloc_new]
   ·exact sR (by simp) _
   ·have hB:=((Below.refl w.heap.size w).alloc (Zah _) (.cells #[.int .i64 op,.slice ra rn rc,.int .i64 mn,.int .i64 mx,.bool lz,.int .i64 cap,.int .i64 a.length,.slice S a.length L] 221)).alloc (by simp) (.cells #[.int .i64 0,.slice none 0 0,.int .i64 0,.int .i64 0,.bool false,.int .i64 0,.int .i64 0,.slice none 0 0] 221)
    refine⟨nm H2.out λb _ hl=>hB.block b hl,rfl,⟨rfl,λi v v' e=>(by simp[FJ] at e)⟩,qw (l4 M) _ _ _ H3.out λb _ hl=>hB.block b hl,⟨[],rfl⟩,λc p=>(H5.out c p).2,λo=>?_,Qs.GF (jj hS hB 0)⟩
    cases e:M.sg (w.heap.size+1) o with
    | none=>rfl
    | some u=>have:=hS.slt e;omega
  case round=>
   obtain⟨k,ld,lr,Gr,Mk,hk,rfl,rfl,X,hz,di,qX⟩:=hrel
   have d7:wr.cell? ⟨w.heap.size,7,none⟩=some (.slice S a.length L):=iT X 7
   have d0:wr.cell? ⟨w.heap.size,0,none⟩=some (.int .i64 op):=iT X 0
   have H9:=Lib.hid X
   have B:=Lib.hid hz
   have d:=Lib.hid qX
   have H12:=Lib.hid hks
   clear X hz qX hks
   by_cases Z:k<a.length
   ·obtain⟨f,P⟩:∃f,a[k]?=some f:=⟨_,Zaf Z⟩
    have hdk:a.drop k=f::a.drop (k+1):=by rw[Zaq Z,(Zam.1 P).2]
    have q:=d.out.ae
    rw[hdk,KA] at q
    obtain⟨x1,lr',F1,F2,rfl,rfl,E,q⟩:=q
    obtain⟨g,kc',ek,_,hgl,_⟩:=d.out.own.form (by simp)
    have s:(ld++x1::lr').length=a.length:=by
     grind
    rw[s] at ek
    cases ek
    obtain⟨qa,qn,qc,pa,pn,pc,ex⟩:=yL E
    have hgw:g<w.heap.size:=wk H2.out g (ZaI.2 rfl)
    have hgn:g≠w.heap.size:=ω
    have hgm:w.heap.size≠g:=ω
    obtain⟨m,hfz,_⟩:=Wx d.out.own s d.out.len
    have hcall:Calls prog 131 #[.agg #[.int .i64 f.op,.slice qa qn qc,.int .i64 f.mn,.int .i64 f.mx,.bool f.lz,.int .i64 f.cap,.int .i64 f.nk,.slice pa pn pc]] wr.drew λe A=>∃(M1:Pm D) (sa:Option Addr) (sn sc:Nat) (ua:Option Addr) (un uc:Nat),
      e=.returned (.agg #[.int .i64 (fa f).op,.slice sa sn sc,.int .i64 (fa f).mn,.int .i64 (fa f).mx,.bool (fa f).lz,.int .i64 (fa f).cap,.int .i64 (fa f).nk,.slice ua un uc])/\
      VR M1 (.agg (D.a_ 15 (fa f))) (.agg #[.int .i64 (fa f).op,.slice sa sn sc,.int .i64 (fa f).mn,.int .i64 (fa f).mx,.bool (fa f).lz,.int .i64 (fa f).cap,.int .i64 (fa f).nk,.slice ua un uc])/\
      Qs F1 Mk wr M1 A/\A.cell? ⟨w.heap.size,7,none⟩=some (.slice (some ⟨g,0,none⟩) a.length L)/\(A.cell? ⟨g,k*8,none⟩=some (.int .i64 f.op)/\A.cell? ⟨g,k*8+1,none⟩=some (.slice qa qn qc)/\A.cell? ⟨g,k*8+2,none⟩=some (.int .i64 f.mn)/\A.cell? ⟨g,k*8+3,none⟩=some (.int .i64 f.mx)/\A.cell? ⟨g,k*8+4,none⟩=some (.bool f.lz)/\A.cell? ⟨g,k*8+5,none⟩=some (.int .i64 f.cap)/\A.cell? ⟨g,k*8+6,none⟩=some (.int .i64 f.nk)/\A.cell? ⟨g,k*8+7,none⟩=some (.slice pa pn pc))/\(∀o,A.frozen? ⟨g,o,none⟩=false)/\g<A.heap.size:=by
     have e1:(#[.int .i64 f.op,.slice qa qn qc,.int .i64 f.mn,.int .i64 f.mx,.bool f.lz,.int .i64 f.cap,.int .i64 f.nk,.slice pa pn pc]:Array Value)=x1.1.toArray:=by rw[ex]
     have hfl:aA a=aA (a.take k)++(aD f++aA (a.drop (k+1))):=by rw[<-eH,<-hdk,<-cG,ZaO]
     have htr:dO f:=by
      have:=H7.out.ae.get Z
      rwa [show((ah.mk op r mn mx lz cap (a.length:Int) a).ae.getD k bF)=f by show a.getD k bF=f;rw[eL Z];exact(Zam.1 P).2] at this
     obtain⟨Gd,U⟩:=d.out.sub
     have C:=H4.out
     rw[U] at C
     have hnF:=(ZbR.1 (ZbR.1 (ZbR.1 C).2.1).2.1).1
     have hgF:g ∉ F1:=λe=>(ZbR.1 C).2.2 g (ZaI.2 rfl) g (ZaC _ (Zay _ e)) rfl
     have hin1:∀c∈F1,D.ng<=c/\c<w.heap.size:=λc p=>T.out c (ZaC _ (by rw[U];exact ZaC _ (Zay _ p)))
     rw[e1]
     refine(ih f x1 F1 Mk wr.drew (by rw[Zae,hfl,Zab,Zab] at hn;omega) ((qq a).1 H12.out f (ZaJ P)) htr (wj (l4 Mk) _ _ _ E λ_ _ _=>rfl) hnF (λc p=>⟨(hin1 c p).1,d.out.un c (ZaC _ (Zay _ p))⟩) (cU.vP d.out.qs.fJ 0).fJ λb hb=>(d.out.qs.pl b).trans (hT b hb)).mono ?_
     rintro e A ⟨M1,v',rfl,hv,O⟩
     have hq':Qs F1 Mk wr M1 A:=⟨O.le,O.fJ,O.pl,O.sb,O.size,O.aO,O.os,O.tape,O.output⟩
     obtain⟨sa,sn,sc,ua,un,uc,rfl⟩:=FK hv
     have hown:qH A (.slice (some ⟨g,0,none⟩) a.length L) (ld++x1::lr'):=nm d.out.own λb hb' hl=>hq'.aO b hl (by rw[ZaI.1 hb'];exact hgF)
     obtain⟨r1,r2,r3⟩:=Wx hown s d.out.len
     refine⟨M1,sa,sn,sc,ua,un,uc,rfl,hv,hq',?_,⟨r1 0 _ ω (by rw[ex];rfl),r1 1 _ ω (by rw[ex];rfl),r1 2 _ ω (by rw[ex];rfl),r1 3 _ ω (by rw[ex];rfl),r1 4 _ ω (by rw[ex];rfl),r1 5 _ ω (by rw[ex];rfl),r1 6 _ ω (by rw[ex];rfl),r1 7 _ ω (by rw[ex];rfl)⟩,r2,r3⟩
     rw[iT ((hq'.aO w.heap.size ω λe=>by have:=(hin1 _ e).2;omega).trans H9.out)]
     rfl
    have c0:=m 0 _ ω (by rw[ex];rfl)
    have c1:=m 1 _ ω (by rw[ex];rfl)
    have c2:=m 2 _ ω (by rw[ex];rfl)
    have c3:=m 3 _ ω (by rw[ex];rfl)
    have c4:=m 4 _ ω (by rw[ex];rfl)
    have c5:=m 5 _ ω (by rw[ex];rfl)
    have c6:=m 6 _ ω (by rw[ex];rfl)
    have c7:=m 7 _ ω (by rw[ex];rfl)
    have b0:(0:Int)<=(k:Int):=ω
    have b1:(k:Int)<(a.length:Int):=ω
    have H13:=Lib.hid q
    have H14:=Lib.hid E
    have H15:=Lib.hid P
    have H16:=Lib.hid ex
    have H17:=Lib.hid s
    clear q E P m hdk s
    simp only[Zbn] at c0
    go_wp2_with fail
    go_region_with
     (first | (go_at_call 131;refine hcall.mono ?_;rintro e A ⟨M1,sa,sn,sc,ua,un,uc,rfl,hv1,hq1,m0,⟨e0,e1,e2,e3,e4,e5,e6,e7⟩,m2,m3⟩))
    all_goals
     go_wp2_with fail
     go_roundg (a.length-(k+1))
     case measure=>omega
     case rel=>
      have hF1:∀c,w.heap.size<=c->c ∉ F1:=λc p e=>by
       obtain⟨Gd,U⟩:=d.out.sub
       have:=(T.out c (ZaC _ (by rw[U];exact ZaC _ (Zay _ e)))).2
       omega
      refine⟨k+1,_,lr',F2,M1,ω,rfl,by go_num,?_,?_,?_,SL.round d.out H13.out H15.out H17.out H4.out T.out di hq1 hv1 (by simp[Value.oneCell'])⟩
      ·exact(l7 hgm).trans ((hq1.aO _ ω (hF1 _ ω)).trans H9.out)
      ·exact(l7 ω).trans ((hq1.aO _ ω (hF1 _ ω)).trans B.out)
      ·exact Zav di (Zav hq1.size jO.size)
   ·obtain rfl:k=a.length:=ω
    obtain⟨R,V,Qk8⟩:∃R,Qs (h_ (.slice S a.length L)) Mk wr R wr/\VR R (.list 15 (cW a)) (.slice S a.length L):=by
     have hk0:=d.out.ae
     rw[ZbH,KA] at hk0
     obtain⟨rfl,rfl⟩:=hk0
     have ho:=d.out.own
     have hr:=d.out.rows
     rw[Zaw] at ho
     rw[ZaA (by rw[og];exact Zah _)] at hr
     exact Ww d.out.qs.fJ ho hr (λc p=>d.out.un c (Zay _ p)) (by rw[d.out.len,og])
    have hq2:Qs (h_ (.slice S a.length L)++G) M w R wr:=d.out.qs.trans V λc p=>.inl (Zay _ p)
    have hu2:∀o,R.sg (w.heap.size+1) o=none:=λo=>by
     cases e:R.sg (w.heap.size+1) o with
     | none=>rfl
     | some u=>
      rcases V.sb _ o (by rw[e];simp) with K | K | K
      ·exact absurd (d.out.un2 o) K
      ·omega
      ·have:=(T.out _ (Zay _ K)).2;omega
    have hu3:∀(I:Pm D) (w3:World),Qs [] R wr I w3->∀o,I.sg (w.heap.size+1) o=none:=λI w3 O o=>by
     cases e:I.sg (w.heap.size+1) o with
     | none=>rfl
     | some u=>
      rcases O.sb _ o (by rw[e];simp) with K | K | K
      ·exact absurd (hu2 o) K
      ·omega
      ·cases K
    have hT2:TF R 0:=λb hb=>(hq2.pl b).trans (hT b hb)
    have hA:VR R (.agg (D.a_ 15 (.mk op r mn mx lz cap (a.length:Int) (cW a)))) (.agg #[.int .i64 op,.slice ra rn rc,.int .i64 mn,.int .i64 mx,.bool lz,.int .i64 cap,.int .i64 a.length,.slice S a.length L]):=by
     simp only[ZaW] at Y
     obtain⟨⟨⟨⟨i0,i2⟩,i3⟩,i5⟩,i6⟩:=Y
     exact VR.DB (.cons (.int i0) (.cons (hvr.mono hq2.le) (.cons (.int i2) (.cons (.int i3) (.cons (.bool lz) (.cons (.int i5) (.cons (.int i6) (.cons Qk8 .nil))))))))
    have Pd:=hS.mh.1.1
    have hcb:∀j,wr.cell? ⟨w.heap.size,j,none⟩=(#[.int .i64 op,.slice ra rn rc,.int .i64 mn,.int .i64 mx,.bool lz,.int .i64 cap,.int .i64 a.length,.slice S a.length L]:Array Value)[j]?:=λj=>iT H9.out j
    have hcz:∀j,wr.cell? ⟨w.heap.size+1,j,none⟩=z8[j]?:=λj=>iT B.out j
    have hfz:∀j,wr.frozen? ⟨w.heap.size+1,j,none⟩=false:=LF B.out
    have I1:=Lib.hid V
    have I2:=Lib.hid hq2
    have I3:=Lib.hid hu2
    have I4:=Lib.hid hu3
    have I5:=Lib.hid hA
    have I6:=Lib.hid Y
    have I7:=Lib.hid hT2
    clear V hq2 hu2 hu3 hA Y Qk8 hT2 hvr d0 d7
    have hD:fa (.mk op r mn mx lz cap (a.length:Int) a)=byD (.mk op r mn mx lz cap (a.length:Int) (cW a)):=by rw[fa]
    have I8:=Lib.hid hD
    clear hD
    by_cases h3:op=3
    ·subst h3
     have p:=y5 g1 (H6.out.1 rfl) I2.out.fJ I7.out I5.out B.out
     have N:=I8.out.trans ((Zac rfl).trans (aC (Jb _)).symm)
     have J:=Lib.hid N
     clear N
     go_wp2_with (go_at_call 187;go_must (refine p.mono ?_;rintro e w3 ⟨I,sa,sn,sc,ua,un,uc,rfl,z,y,Q,Qk9,Qla⟩))
     obtain⟨W,hW,hQ,hl⟩:=wx (I2.out.trans y (λc p=>nomatch p)) Q (I4.out I w3 y) Pd z
     rw[<-hW]
     refine bodyPost_ret (qy rfl _ rfl hl) rfl ⟨I,_,rfl,?_,hQ⟩
     rw[J.out]
     exact z
    ·by_cases K:op=4
     ·subst K
      have p:=y5 g2 (H6.out.2.1 rfl) I2.out.fJ I7.out I5.out B.out
      have N:=I8.out.trans ((Zaa h3).trans ((Zac rfl).trans (aC (Je _)).symm))
      have J:=Lib.hid N
      clear N
      go_wp2_with (go_at_call 188;go_must (refine p.mono ?_;rintro e w3 ⟨I,sa,sn,sc,ua,un,uc,rfl,z,y,Q,Qk9,Qla⟩))
      obtain⟨W,hW,hQ,hl⟩:=wx (I2.out.trans y (λc p=>nomatch p)) Q (I4.out I w3 y) Pd z
      rw[<-hW]
      refine bodyPost_ret (qy rfl _ rfl hl) rfl ⟨I,_,rfl,?_,hQ⟩
      rw[J.out]
      exact z
     ·by_cases h5:op=5
      ·subst h5
       have p:=y5 g3 (H6.out.2.2 rfl) I2.out.fJ I7.out I5.out B.out
       have N:=I8.out.trans (((Zaa h3).trans (Zaa K)).trans ((Zac rfl).trans (aC (cV _)).symm))
       have J:=Lib.hid N
       clear N
       go_wp2_with (go_at_call 189;go_must (refine p.mono ?_;rintro e w3 ⟨I,sa,sn,sc,ua,un,uc,rfl,z,y,Q,Qk9,Qla⟩))
       obtain⟨W,hW,hQ,hl⟩:=wx (I2.out.trans y (λc p=>nomatch p)) Q (I4.out I w3 y) Pd z
       rw[<-hW]
       refine bodyPost_ret (qy rfl _ rfl hl) rfl ⟨I,_,rfl,?_,hQ⟩
       rw[J.out]
       exact z
      ·have N:=I8.out.trans (((Zaa h3).trans (Zaa K)).trans (Zaa h5))
       have J:=Lib.hid N
       clear N
       go_wp2_with fail
       obtain⟨W,hW,hQ,hl⟩:=wx I2.out B.out I3.out Pd I5.out
       rw[<-hW]
       refine bodyPost_ret (qy rfl _ rfl hl) rfl ⟨R,_,rfl,?_,hQ⟩
       rw[J.out]
       exact I5.out
end sx
namespace sx
open Go Go.RowKit cls syn sl
variable {M:Pm D} {w:World} {y:List Nd}
def Qs.QcN {a:Pm D} {d:World} (h:Qs [] M w a d):cU H0 M w H0 a d 0 0:=
 ⟨h.fJ,λb _=>h.pl b,h.le.2,λb o e=>(h.sb b o e).imp_right (λk=>k.elim .inl λk=>(nomatch k)),h.size,λc f _=>h.aO c f (by simp),λ_ _ _ e=>(by cases e),λ_ e=>absurd rfl e,h.os,h.tape,h.output,Zah _⟩
def L2 {f:FuncId} {Y:Type} {oM:List (AV D.E)->St D.E->C Y} {pre:Y->Prop} {a r:Y->AV D.E} (h:Ok (bO f Y oM pre (λy=>[a y]) r)) {y:Y} (j:pre y) {v:Value} (g:ee M H0 w) (i:TF M 0) (d:VR M (a y) v):
  Calls prog f #[v] w λe m=>∃(b:Pm D) (u:Value),e=.returned u/\VR b (r y) u/\Qs [] M w b m:=
 h.2 y j M #[v] w (.cons d .nil) g i _ λc l _ k hs=>⟨c,l,rfl,k,Qs.GF hs⟩
def Ϸ {t:ah} (h1:ku t) (q:y=aD t) (v:y.length<=480) {m:Option Addr} {n vc:Nat} (s:VR M (.list 7 y) (.slice m n vc)) (r:ee M H0 w):
  Calls prog 129 #[.slice m n vc,.int .i64 0] w λe p=>∃(x:E8) (F:List Nat) (g:Option Addr) (k j:Nat) (d:Option Addr) (f pc:Nat) (i:Int),
   e=.returned (.tuple #[.agg #[.int .i64 t.op,.slice g k j,.int .i64 t.mn,.int .i64 t.mx,.bool t.lz,.int .i64 t.cap,.int .i64 t.nk,.slice d f pc],.int .i64 i])/\
   (x.1=[.int .i64 t.op,.slice g k j,.int .i64 t.mn,.int .i64 t.mx,.bool t.lz,.int .i64 t.cap,.int .i64 t.nk,.slice d f pc])/\TA M p t x F/\F.Nodup/\(∀c∈F,w.heap.size<=c)/\Below w.heap.size w p:=by
 have a:1<=y.length:=by rw[q];exact sM t
 generalize hu:(Value.slice m n vc)=u at s;have h:∃(b o cap:Nat),u=.slice (some ⟨b,o,none⟩) y.length cap/\y.length<=cap/\Rd M w b o (aV (D:=D) 7 y)/\b<w.heap.size:=by
  cases s with
  | @list c b o cap xs hs C l=>exact⟨b,o,cap,rfl,l,pW fL r hs,r.slt (hs 0 a 0 _ rfl)⟩
  | ed=>exact absurd a (by decide)
 obtain⟨b,o,cap,e,l,z,A⟩:=h;rw[e];refine(ϓ (Zav v (by decide)) l (aD t).length t 0 [] w (Zah _) h1 (by rw[Zaw,<-q];rfl) z A).mono ?_;rintro B p ⟨x,F,rfl,k1,k2,k3,k4⟩;obtain⟨g,k,j,d,f,pc,ex⟩:=yL k1;exact⟨x,F,g,k,j,d,f,pc,_,by rw[ex],ex,k1,k2,k3,k4⟩
def ϸ {t:ah} {A:List Value} (h1:ku t) (n:dO t) {x:E8} {F:List Nat} {a:World} {o:Obj} (ex:x.1=A) (j:TA M a t x F) (i:F.Nodup) (f:∀c∈F,w.heap.size<=c) (k:Below w.heap.size w a) (g:ee M H0 w) (p:TF M 0):
  Calls prog 131 #[.agg A.toArray] (a.alloc o) λe m=>∃(b:Pm D) (v:Value),e=.returned v/\VR b (.agg (D.a_ 15 (fa t))) v/\Qs [] M w b m:=by
 subst ex;have hs:=k.size;have h:Below w.heap.size w (a.alloc o):=k.alloc hs o;have l:Qs [] M w M (a.alloc o):=Qs.GF (jj g h 0);refine(QfG QkG QkK QkL _ t x F M (a.alloc o) (Zah _) h1 n (wj (l4 M) _ _ _ j λc _ hl=>Below.heap_alloc _ _ _ hl) i (λc d=>⟨Zav g.mh.1.1 (f c d),λo=>?_⟩) l.fJ p).mono ?_
 ·cases e:M.sg c o with
  | none=>rfl
  | some u=>have:=g.slt e;have:=f c d;omega
 ·rintro e m ⟨b,v,rfl,k1,k2⟩;exact⟨b,v,rfl,k1,l.trans k2 λc d=>.inr (f c d)⟩
set_option maxHeartbeats 4000000 in
theorem Ϲ (hm:Ok gA) (H:oy y) {v:Value} (C:ee M H0 w) (E:TF M 0) (q:VR M (.list 7 y) v):
  Calls prog 80 #[v] w λe w'=>∃(S:Pm D) (W:Value),e=.returned W/\VR S (.list 7 (lk (cP y))) W/\Qs [] M w S w':=by
 have G:Calls prog 128 #[v] w λe X=>∃(z:Pm D) (u:Value),e=.returned u/\VR z (.bool (dS y)) u/\Qs [] M w z X:=L2 (f:=128) (Qcu hm) (y:=y) H C E q
 obtain⟨va,vn,vc,rfl⟩:=Bn q
 by_cases d:dS y=true
 ·obtain⟨t,h1,A,B⟩:=jl d
  have k:cP y=aD (fa t):=by
   unfold cP
   rw[Zac d,A,pE h1,Bw h1]
  have I:=Lib.hid k
  have r:=Lib.hid h1
  rw[d] at G
  have hlen:=B
  have V:1<=y.length:=by rw[A];exact sM t
  have O:=Lib.hid A
  have Y:=Lib.hid H
  have Z:=Lib.hid q
  have H5:=Lib.hid C
  have H6:=Lib.hid E
  clear k h1 A H q C E d
  go_enter Tryz.func80,Tryz.ntmps80
  go_wp2_with (go_at_call 128;go_must (refine G.mono ?_;rintro e w1 ⟨s,u,rfl,hu,a⟩;obtain rfl:=nZ hu;clear hu))
  have m:TF s 0:=λb L=>(a.pl b).trans (H6.out b L)
  have P:=Lib.hid m
  have Q:=Lib.hid a
  have J:=Ϸ r.out O.out B (Z.out.mono a.le) a.fJ
  refine J.mono ?_
  rintro e w2 ⟨x,F,qa,qn,qc,pa,pn,pc,i,rfl,ex,k1,k2,k3,k4⟩
  have g:dO t:=by
   have h:=O.out
   have U:=Y.out
   rw[h] at U B
   exact⟨Zav B (by decide),U⟩
  have K4:=ϸ (o:=.cells #[.int .i64 t.op,.slice qa qn qc,.int .i64 t.mn,.int .i64 t.mx,.bool t.lz,.int .i64 t.cap,.int .i64 t.nk,.slice pa pn pc] 221) r.out g ex k1 k2 k3 k4 Q.out.fJ P.out
  have R:=Lib.hid g
  have K6:=Lib.hid J
  clear k1 k2 k3 k4 ex m a g J
  go_wp2_with (go_at_call 131;go_must (refine K4.mono ?_;rintro e X ⟨z,u,rfl,hu,j⟩))
  have K:TF z 0:=λb L=>(j.pl b).trans (P.out b L)
  have hk:dO (fa t):=by
   have a1:=Bw r.out
   have a2:=(qp t (E_ t r.out) ⟨Zah _,R.out.2⟩).2
   rw[<-a1] at a2
   exact⟨Zav a2.1 R.out.1,a2.2⟩
  have hl:=L2 QcK hk j.fJ K hu
  refine hl.mono ?_
  rintro e w4 ⟨T,u4,rfl,p,N⟩
  have K7:=Lib.hid p
  clear p hl hk
  go_wp2_with fail
  go_ret
  refine⟨T,_,rfl,?_,(Q.out.trans j λc d=>(nomatch d)).trans N λc d=>(nomatch d)⟩
  have e:dg (fa t)=lk (cP y):=by rw[aC,I.out];unfold dg;rw[aC]
  have hz:∀l:List Nd,dg (fa t)=l->VR T (.list 7 l) u4:=λl h=>by subst h;exact K7.out
  exact hz _ e
 ·have n:dS y=false:=by simpa using d
  rw[n] at G
  have hs:cP y=[]:=by unfold cP;rw[Zaa d]
  have I:=Lib.hid hs
  clear hs d n q C E H
  go_enter Tryz.func80,Tryz.ntmps80
  go_wp2_with (go_at_call 128;go_must (refine G.mono ?_;rintro e w1 ⟨s,u,rfl,hu,a⟩;obtain rfl:=nZ hu;clear hu))
  go_ret
  refine⟨s,_,rfl,?_,a⟩
  have hz:∀l:List Nd,l=[]->VR s (.list 7 l) (.slice none 0 0):=λl h=>by subst h;exact .ed
  exact hz _ ((aC _).trans I.out)
def Qlb (i:Ok gA):Ok Ϯ:=by
 refine⟨⟨f80,_,by kernel_rfl,cN (by kernel_rfl)⟩,λy k M A w c f g R d=>?_⟩;obtain⟨v,rfl,j⟩:=yd c;exact(Ϲ i k f g j).mono λe m ⟨a,l,h,h1,b⟩=>by rw[h];exact d a l m h1 b.QcN
end sx
namespace sx
open Go Go.RowKit Go.Maps cls syn
set_option maxRecDepth 100000
variable {M:Pm D} {w:World} {b o i:Nat} {v:Value} {E:DataW Unit} {Z:aX}
theorem sY {xs:List (D.E b)} (hz:∀x:D.E b,∃u,(D.a_ b x)[0]?=some u) (d:ee M H0 w) (h:VR M (.list b xs) v):
  ∃a cap,v=.slice a xs.length cap/\(0<xs.length->∃c o,a=some ⟨c,o,none⟩/\Rd M w c o (aV (D:=D) b xs)/\c<w.heap.size):=by
 cases h with
 | @list b c o cap xs hs g f=>exact⟨_,cap,rfl,λe=>let ⟨u,hu⟩:=hz xs[0];⟨c,o,rfl,pW fL d hs,d.slt (hs 0 e 0 u hu)⟩⟩
 | ed=>exact⟨_,_,rfl,λh=>absurd h (Nat.lt_irrefl 0)⟩
theorem QfH {p:iC} (h:VR M (Hj p) v):∃c s,v=.agg #[c,s]/\VR M (.list 8 p.af) c/\VR M (.list 5 p.av) s:=by
 cases h with | @agg _ A h1 a=>?_
 obtain⟨l⟩:=A;obtain⟨c,s,e,b,d⟩:=EC ⟨h1,a⟩;grind
def Ϻ {l:dd} (h:VR M (.agg (D.a_ 2 l)) v):∃t,v=.agg #[.bool l.done,.int .i64 l.c0,.int .i64 l.c1,.int .i64 l.c2,.int .i64 l.c3,.int .i64 l.c4,.int .i64 l.c5,.int .i64 l.c6,.int .i64 l.c7,.int .i64 l.c8,.int .i64 l.c9,t]/\VR M (.list 1 l.aJ) t:=by
 cases h with | @agg _ A h1 g=>?_
 obtain⟨A⟩:=A;have h:LR M (D.a_ 2 l) A:=⟨h1,g⟩;cases l;obtain⟨i,A,rfl,a0,h⟩:=h.aM;obtain⟨j,A,rfl,c,h⟩:=h.aM;obtain⟨k,A,rfl,a2,h⟩:=h.aM;obtain⟨v3,A,rfl,a3,h⟩:=h.aM;obtain⟨m,A,rfl,a4,h⟩:=h.aM;obtain⟨v5,A,rfl,a5,h⟩:=h.aM;obtain⟨n,A,rfl,d,h⟩:=h.aM;obtain⟨o,A,rfl,e,h⟩:=h.aM;obtain⟨p,A,rfl,f,h⟩:=h.aM;obtain⟨v9,A,rfl,a9,h⟩:=h.aM;obtain⟨v10,A,rfl,a,h⟩:=h.aM;obtain⟨v11,A,rfl,b,h⟩:=h.aM;obtain rfl:=h.jA;obtain rfl:=nZ a0;obtain rfl:=fE c;obtain rfl:=fE a2;obtain rfl:=fE a3;obtain rfl:=fE a4;obtain rfl:=fE a5;obtain rfl:=fE d;obtain rfl:=fE e;obtain rfl:=fE f;obtain rfl:=fE a9;obtain rfl:=fE a;exact⟨_,rfl,b⟩
def L3 {f:FuncId} {Y:Type} {oM:List (AV D.E)->St D.E->C Y} {pre:Y->Prop} {a b r:Y->AV D.E} (h:Ok (bO f Y oM pre (λy=>[a y,b y]) r)) {y:Y} (l:pre y) {u:Value} (j:ee M H0 w) (k:TF M 0) (g:VR M (a y) v) (i:VR M (b y) u):
  Calls prog f #[v,u] w λe o=>∃(c:Pm D) (z:Value),e=.returned z/\VR c (r y) z/\Qs [] M w c o:=
 h.2 y l M #[v,u] w (.cons g (.cons i .nil)) j k _ λd n _ m hs=>⟨d,n,rfl,m,Qs.GF hs⟩
def Qlc {af:List aW} (h:Rd M w b o (aV (D:=D) 8 af)) (hi:i<af.length):w.cell? ⟨b,o+i*4,none⟩=some (.int .i64 (af.getD i ⟨0,0,0,[]⟩).op):=by
 obtain⟨v,h1,a⟩:=kr fL h hi 0 _ rfl;obtain rfl:=fE a;rw[Zag,Zaf hi];exact h1
def Qld {a:List Bool} (h:Rd M w b o (aV (D:=D) 17 a)) (hi:i<a.length):w.cell? ⟨b,o+i,none⟩=some (.bool (a.getD i false)):=by
 obtain⟨v,h1,c⟩:=kr fL h hi 0 _ rfl;obtain rfl:=nZ c;rw[Zag,Zaf hi];rw[show o+i=o+i*D.size 17+0 by show _=o+i*1+0;omega];exact h1
def Qle {xs:List Int} {x:Int} (h:Rd M w b o (aV (D:=D) 5 xs)) (d:xs[i]?=some x):w.cell? ⟨b,o+i,none⟩=some (.int .i64 x)/\fK .i64 x:=by
 obtain⟨hi,rfl⟩:=Zam.1 d;obtain⟨v,h1,a⟩:=kr fL h hi 0 _ rfl;obtain⟨rfl,c⟩:=eA a;rw[show o+i=o+i*D.size 5+0 by show _=o+i*1+0;omega];exact⟨h1,c⟩
def Jt {H:Type} {P:Program} (w:World) {ops:Array Oper} {rest:List Oper} {o:Oper} {a:Act} {Q:Exit->Act->World->Prop} (r:o.guard=none) (m x v:Operand) (t:TypeId) (l:o.op=Op.insert t m x v)
  (k e:TypeId) (K:Keyed P k) (ht:P.underlying t=some (.map k e)) (R:Value->Option (DataW H×List MemPlace)) (b n:Nat) (D:DataW H) (s:a.eval m=.map (some b)) (f:w.ownsMap P k R b n D) (u:n<maxLen) (key val:Value) (p:Lit)
  (z:a.eval x=key) (y:a.eval v=val) (c:keyOf P k key=some p) (d:DataW H) (A:List MemPlace) (h:R val=some (d,A))
  (q:∀i,i.ownsMap P k R b (n+1) (D.put p d)->w.grownBy i (some b)->wpList P ops Q rest (a.put o.dst Go.undef) i):wpList P ops Q (o::rest) a w:=by
 refine wpList_plain r λE j=>?_
 obtain⟨i,g,B,C⟩:=f.update K ht u c h;unfold Oper.wp;simp[execOp,l,s,z,y,g,Result.andThen];exact j _ _ (q i B C)
def Mp (E:DataW Unit) (F:Int->Bool):Prop:=IsMap E/\∀j:Int,E.atKey (.int .i64 j) (.lit (.int .i64 0))=.lit (.int .i64 (if F j=true then 1 else 0))
theorem Mp.nil:Mp (.map []) λ_=>false:=⟨⟨_,rfl⟩,λ_=>rfl⟩
theorem Mp.put {F:Int->Bool} (h:Mp E F) (j:Int) (b:Bool):Mp (E.put (.int .i64 j) (.lit (.int .i64 (if b=true then 1 else 0)))) λk=>if k=j then b else F k:=by
 refine⟨h.1.put _ _,λk=>?_⟩;by_cases e:k=j
 ·subst e;simp only[Zbv];exact atKey_put_same h.1 (by simp[WideAt.IsKeyLit]) _ _
 ·rw[atKey_put_other (by grind),h.2 k];grind
def Qlf {xs:List aX} (h:Rd M w b o (aV (D:=D) 1 xs)) (ht:xs[i]?=some Z):
  w.cell? ⟨b,o+i*11,none⟩=some (.int .i64 Z.pc)/\w.cell? ⟨b,o+i*11+1,none⟩=some (.int .i64 Z.c0)/\w.cell? ⟨b,o+i*11+2,none⟩=some (.int .i64 Z.c1)/\w.cell? ⟨b,o+i*11+3,none⟩=some (.int .i64 Z.c2)/\w.cell? ⟨b,o+i*11+4,none⟩=some (.int .i64 Z.c3)/\
  w.cell? ⟨b,o+i*11+5,none⟩=some (.int .i64 Z.c4)/\w.cell? ⟨b,o+i*11+6,none⟩=some (.int .i64 Z.c5)/\w.cell? ⟨b,o+i*11+7,none⟩=some (.int .i64 Z.c6)/\w.cell? ⟨b,o+i*11+8,none⟩=some (.int .i64 Z.c7)/\w.cell? ⟨b,o+i*11+9,none⟩=some (.int .i64 Z.c8)/\w.cell? ⟨b,o+i*11+10,none⟩=some (.int .i64 Z.c9)/\
  fK .i64 Z.pc/\∀x∈oz Z,fK .i64 x:=by
 obtain⟨hi,rfl⟩:=Zam.1 ht;have k:=kr fL h hi;obtain⟨G,a0,j⟩:=k 0 _ rfl;obtain⟨H,d,b1⟩:=k 1 _ rfl;obtain⟨I,a2,l⟩:=k 2 _ rfl;obtain⟨v3,a3,m⟩:=k 3 _ rfl;obtain⟨J,a4,n⟩:=k 4 _ rfl;obtain⟨v5,a5,p⟩:=k 5 _ rfl;obtain⟨K,e,q⟩:=k 6 _ rfl;obtain⟨L,f,r⟩:=k 7 _ rfl;obtain⟨N,g,b8⟩:=k 8 _ rfl;obtain⟨v9,a9,s⟩:=k 9 _ rfl;obtain⟨v10,a,c⟩:=k 10 _ rfl;obtain⟨rfl,u⟩:=eA j;obtain⟨rfl,v⟩:=eA b1;obtain⟨rfl,y⟩:=eA l;obtain⟨rfl,z⟩:=eA m;obtain⟨rfl,A⟩:=eA n;obtain⟨rfl,B⟩:=eA p;obtain⟨rfl,C⟩:=eA q;obtain⟨rfl,E⟩:=eA r;obtain⟨rfl,d8⟩:=eA b8;obtain⟨rfl,F⟩:=eA s;obtain⟨rfl,d10⟩:=eA c;exact⟨a0,d,a2,a3,a4,a5,e,f,g,a9,a,u,by simp[oz];exact⟨v,y,z,A,B,C,E,d8,F,d10⟩⟩
def ϻ (ht:∀x∈oz Z,fK .i64 x):VR M (.agg [.int .i64 Z.c0,.int .i64 Z.c1,.int .i64 Z.c2,.int .i64 Z.c3,.int .i64 Z.c4,.int .i64 Z.c5,.int .i64 Z.c6,.int .i64 Z.c7,.int .i64 Z.c8,.int .i64 Z.c9])
  (.agg #[.int .i64 Z.c0,.int .i64 Z.c1,.int .i64 Z.c2,.int .i64 Z.c3,.int .i64 Z.c4,.int .i64 Z.c5,.int .i64 Z.c6,.int .i64 Z.c7,.int .i64 Z.c8,.int .i64 Z.c9]):=by
 simp only[oz,Zbf,Zds,Zdt,forall_eq_or_imp,forall_eq] at ht;obtain⟨h0,h1,a,b,c,d,e,f,g,i⟩:=ht;have h:LR M [.int .i64 Z.c0,.int .i64 Z.c1,.int .i64 Z.c2,.int .i64 Z.c3,.int .i64 Z.c4,.int .i64 Z.c5,.int .i64 Z.c6,.int .i64 Z.c7,.int .i64 Z.c8,.int .i64 Z.c9] [.int .i64 Z.c0,.int .i64 Z.c1,.int .i64 Z.c2,.int .i64 Z.c3,.int .i64 Z.c4,.int .i64 Z.c5,.int .i64 Z.c6,.int .i64 Z.c7,.int .i64 Z.c8,.int .i64 Z.c9]:=
  .cons (.int h0) <| .cons (.int h1) <| .cons (.int a) <| .cons (.int b) <| .cons (.int c) <| .cons (.int d) <| .cons (.int e) <| .cons (.int f) <| .cons (.int g) <| .cons (.int i) .nil
 exact .agg h.1 h.2
def BA {a:World} {k:TypeId} {R:Value->Option (DataW Unit×List MemPlace)} (h:w.ownsMap prog k R b o E) (e:a.heap[b]?=w.heap[b]?):a.ownsMap prog k R b o E:=by
 obtain⟨es,clock,c,r⟩:=h;exact⟨es,clock,e.trans c,r⟩
def ON:Keyed prog 3:=int_keyed Tryz.underlying3
def Wy (w:World):(zeroValue 3).run prog w=.ok (.int .i64 0) w:=by kernel_rfl
set_option maxHeartbeats 4000000 in
theorem Qaa {p:iC} {l:dd} {m st:Int} (hr:b<p.av.length) (hst:p.av[b]?=some st) (pv:ND (p.af,st)) (hn:l.aJ.length<=1000000) {lv:Value} (hS:ee M H0 w) (hT:TF M 0)
  (hm:fK .i64 m=true) (hp:VR M (Hj p) v) (hl:VR M (.agg (D.a_ 2 l)) lv):
  Calls prog 208 #[v,.int .i64 b,lv,.int .i64 m] w λe w'=>∃(M':Pm D),e=.returned (.bool (vC ⟨p,b,l,m⟩))/\Qs [] M w M' w':=by
 obtain⟨cv,sv,rfl,hcv,hsv⟩:=QfH hp
 obtain⟨tv,rfl,htv⟩:=Ϻ hl
 obtain⟨sa,X,rfl,P⟩:=sY (λx=>⟨_,rfl⟩) hS hsv
 obtain⟨sb,so,rfl,hsr,hsb⟩:=P (Nat.lt_of_le_of_lt (Zaj _) hr)
 have hcs:=Qle hsr hst
 obtain⟨hcs,hin⟩:=hcs
 obtain⟨ca,A,rfl,hc2⟩:=sY (λx=>⟨_,rfl⟩) hS hcv
 have hb0:(0:Int)<=(b:Int):=ω
 have lG:(b:Int)<(p.av.length:Int):=ω
 obtain⟨ta,Qlg,rfl,ht2⟩:=sY (λx=>⟨_,rfl⟩) hS htv
 have G8:=Lib.hid ht2
 have hpos:0<p.af.length:=by have h1:0<=st:=pv.2.1;have Q:st<p.af.length:=pv.2.2;omega
 obtain⟨cb,co,rfl,hcr,hcb⟩:=hc2 hpos
 have hcall:∀W:World,Below w.heap.size w W->Calls prog 243 #[.slice (some ⟨cb,co,none⟩) p.af.length A,.int .i64 st] W λe w3=>∃(M3:Pm D) (z:Value),e=.returned z/\VR M3 (.list 17 (lJ p.af st)) z/\Qs [] M W M3 w3:=
  λW hb=>L3 Qcb (y:=(p.af,st)) pv (jj hS hb 0).fJ hT hcv (.int hin)
 have hcl:p.af.length<=1000:=pv.1.1
 have hs0:0<=st:=pv.2.1
 have hs9:st<1000:=by have h1:=pv.1.1;have Q:=pv.2.2;simp only at h1 Q;omega
 have hkey:keyOf prog 3 (.int .i64 st)=some (.int .i64 st):=keyOf_int_mk Tryz.underlying3 (WalkArith.wf_i64 ω)
 have G1:=Lib.hid hcv
 have G2:=Lib.hid htv
 have G3:=Lib.hid hS
 have G4:=Lib.hid hT
 have G5:=Lib.hid pv
 have G6:=Lib.hid hcr
 have G7:=Lib.hid hst
 have hgs:Ϗ ⟨p,b,l,m⟩=st:=by show p.av.getD (Int.toNat b) 0=st;rw[Zad,Zag,hst];rfl
 have GS:=Lib.hid hgs
 clear hgs
 clear hcv htv ht2 hS hT pv hc2 hcr P hp hl hsv hst hsr
 go_enter Tryz.func208,Tryz.ntmps208
 go_wp2_with fail
 go_region_with (go_at_call 243;refine(hcall _ (((Below.refl _ _).alloc (Zah _) _).alloc (by simp) _).drew).mono ?_;rintro e f ⟨M1,z,rfl,hz,s⟩)
 all_goals
  have hmm:=@run_makeMap prog
  obtain⟨za,Qwo,hzv,hz2⟩:=sY (λx=>⟨_,rfl⟩) s.fJ hz
  rw[show List.length (α:=D.E 17) (lJ p.af st)=p.af.length from mT _ _] at hzv
  obtain⟨zb,zo,rfl,hzr,hzb⟩:=hz2 (show 0<(lJ p.af st).length by rw[mT];exact hpos)
  subst hzv
  have T:∀c,c<w.heap.size+2->f.heap[c]?=((w.alloc (Obj.cells #[Value.slice (some ⟨cb,co,none⟩) p.af.length A,Value.slice (some { block:=sb,off:=so }) p.av.length X] 88)).alloc (Obj.cells #[Value.bool l.done,Value.int IntKind.i64 l.c0,Value.int IntKind.i64 l.c1,Value.int IntKind.i64 l.c2,Value.int IntKind.i64 l.c3,Value.int IntKind.i64 l.c4,Value.int IntKind.i64 l.c5,Value.int IntKind.i64 l.c6,Value.int IntKind.i64 l.c7,Value.int IntKind.i64 l.c8,Value.int IntKind.i64 l.c9,.slice ta (List.length (α:=D.E 1) l.aJ) Qlg] 106)).heap[c]?:=λc pv=>s.aO c (by simpa using pv) (by simp)
  have hs1:w.heap.size+2<=f.heap.size:=by have:=s.size;simpa using this
  have P:w.heap.size<f.heap.size:=ω
  have hs3:sb<f.heap.size:=ω
  have k0:f.heap[w.heap.size]?=some (Obj.cells #[Value.slice (some ⟨cb,co,none⟩) p.af.length A,Value.slice (some { block:=sb,off:=so }) p.av.length X] 88):=(T _ ω).trans (by rw[Below.heap_alloc _ _ _ (by simp)];exact heap_alloc_new _ _)
  have k1:f.cell? ⟨w.heap.size,1,none⟩=some (.slice (some ⟨sb,so,none⟩) p.av.length X):=by rw[iT k0];rfl
  have k2:f.cell? ⟨sb,so+b,none⟩=some (.int .i64 st):=(gk ((T sb ω).trans (by grind [Below.heap_alloc]))).trans hcs
  have hk4:∀c,c<w.heap.size->f.heap[c]?=w.heap[c]?:=λc pv=>(T c ω).trans (by grind [Below.heap_alloc])
  have K4:=Lib.hid hk4
  have hfin:∀Z,Below f.heap.size f Z->Qs [] M w M1 Z:=λZ hb=>((Qs.GF (F:=[]) (jj G3.out ((((Below.refl _ _).alloc (Zah _) _).alloc (by simp) _).drew) 0)).trans s λc pv=>nomatch pv).trans (Qs.GF (F:=[]) (jj s.fJ hb 0)) λc pv=>nomatch pv
  have KF:=Lib.hid hfin
  have hpl:∀(t:aX) (Z:World),(∀x∈oz t,fK .i64 x=true)->Below f.heap.size f Z->Calls prog 207 #[.agg #[.int .i64 t.c0,.int .i64 t.c1,.int .i64 t.c2,.int .i64 t.c3,.int .i64 t.c4,.int .i64 t.c5,.int .i64 t.c6,.int .i64 t.c7,.int .i64 t.c8,.int .i64 t.c9],.int .i64 m] Z λe w3=>e=.returned (.bool (fq t m))/\Below Z.heap.size Z w3:=λt Z ht hb=>by
   refine(L3 QcI (y:=(t,m)) trivial (jj s.fJ hb 0).fJ (λr hb=>(s.pl r).trans (G4.out r hb)) (ϻ ht) (.int hm)).mono ?_
   ·rintro e w3 ⟨M3,u,rfl,hu,hq⟩
    exact⟨by rw[nZ hu],hq.os,hq.tape,hq.output,hq.size,λc pv=>hq.aO c pv (by simp)⟩
  have KP:=Lib.hid hpl
  have K1:=Lib.hid T
  have K2:=Lib.hid hzr
  have K3:=Lib.hid s
  clear T hk4 hfin hpl hz s hz2 hzr
  go_wp2_with (refine Jt (H:=Unit) _ rfl _ _ _ 328 rfl 3 3 ON Tryz.underlying328 (plainElem prog 3) f.heap.size 0 _ rfl (World.ownsMap_made _ _ _ _) (by unfold maxLen;omega) _ _ _ rfl rfl hkey _ [] (plainElem_int Tryz.underlying3 (WalkArith.wf_i64 ω)) ?_;intro w2 hown2 I)
  generalize hB:f.heap.size=B at*
  have KB:=Lib.hid hB
  have QsW:Below B f w2:=((Below.refl _ _).alloc (Zd1 hB.symm) _).grown I (by simp;omega) λj hj=>by grind
  clear hB I k1 k2
  have QsX:f.cell? ⟨w.heap.size,0,none⟩=some (.slice (some ⟨cb,co,none⟩) p.af.length A):=by rw[iT k0];rfl
  clear k0
  go_loopg [32] p.af.length (λg i wr=>∃(k:Nat) (E:DataW Unit) (a:Nat),k<=p.af.length/\g=p.af.length-k/\i=.int .i64 k/\wr.ownsMap prog 3 (plainElem prog 3) B a E/\a<=k+1/\
   Mp E (LC p.af (lJ p.af st) k λj=>if j=st then true else false)/\Below B f wr)
  case atStart=>exact⟨0,_,1,Zaj _,ω,rfl,hown2,Zah _,Mp.nil.put st true,QsW⟩
  case round=>
   obtain⟨k,E,a,hk,rfl,rfl,C,hcnt,U,S⟩:=hrel
   have J1:=Lib.hid C
   have J2:=Lib.hid U
   have Y:=Lib.hid S
   clear C U S
   by_cases hlt:k<p.af.length
   ·have z1:wr.cell? ⟨zb,zo+k,none⟩=some (.bool ((lJ p.af st).getD k false)):=(Y.out.cell (by exact hzb)).trans (Qld K2.out (by rw[mT];exact hlt))
    have z2:wr.cell? ⟨w.heap.size,0,none⟩=some (.slice (some ⟨cb,co,none⟩) p.af.length A):=(Y.out.cell (by exact P)).trans QsX
    have z3:wr.cell? ⟨cb,co+k*4,none⟩=some (.int .i64 (p.af.getD k ⟨0,0,0,[]⟩).op):=(Y.out.cell (show cb<B from Nat.lt_trans hcb P)).trans ((gk (K4.out cb hcb)).trans (Qlc G6.out hlt))
    have c1:(0:Int)<=(k:Int):=ω
    have c2:(k:Int)<(p.af.length:Int):=ω
    cases O:(lJ p.af st).getD k false with
    | false=>
     rw[O] at z1
     have J4:=Lib.hid O
     clear O
     go_wp2_with fail
     go_roundg (p.af.length-(k+1))
     case measure=>omega
     case rel=>exact⟨k+1,E,a,ω,rfl,by go_num,J1.out,ω,by rw[LC,Zaa (by rw[J4.out];simp)];exact J2.out,Y.out⟩
    | true=>
     rw[O] at z1
     have J4:=Lib.hid O
     clear O
     by_cases L:(p.af.getD k ⟨0,0,0,[]⟩).op=1
     ·rw[L] at z3
      have J5:=Lib.hid L
      clear L
      have Qlh:keyOf prog 3 (.int .i64 ((k:Int)+1))=some (.int .i64 ((k:Int)+1)):=keyOf_int_mk Tryz.underlying3 (WalkArith.wf_i64 ω)
      go_wp2_with (at_mapUpdate;refine wpList_mapUpdate_own (H:=Unit) _ rfl _ _ _ 328 rfl 3 3 ON Tryz.underlying328 (plainElem prog 3) B a E rfl J1.out (by unfold maxLen;omega) _ _ _ rfl rfl Qlh _ [] (plainElem_int Tryz.underlying3 (WalkArith.wf_i64 ω)) ?_;intro w3 hown3 hgrow3)
      go_roundg (p.af.length-(k+1))
      case measure=>omega
      case rel=>exact⟨k+1,_,a+1,ω,rfl,by go_num,hown3,ω,by rw[LC,Zac ⟨J4.out,J5.out⟩];exact J2.out.put ((k:Int)+1) true,Y.out.grown hgrow3 (Zav (Zd1 KB.out.symm) Y.out.size) (λj hj=>by grind)⟩
     ·generalize hg:(p.af.getD k ⟨0,0,0,[]⟩).op=q at z3 L
      have J5:=Lib.hid hg
      have q1:(q==1)=false:=by simpa using L
      have q2:decide (q=1)=false:=by assumption
      clear hg
      go_wp2_with fail
      go_roundg (p.af.length-(k+1))
      case measure=>omega
      case rel=>exact⟨k+1,E,a,ω,rfl,by go_num,J1.out,ω,by rw[LC,Zaa (by rw[J5.out];exact λh=>L h.2)];exact J2.out,Y.out⟩
   ·obtain rfl:k=p.af.length:=ω
    have k5:wr.cell? ⟨w.heap.size+1,11,none⟩=some (.slice ta (List.length (α:=D.E 1) l.aJ) Qlg):=(Y.out.cell (show w.heap.size+1<B by omega)).trans (by rw[iT ((K1.out _ ω).trans (sR (by simp) _))];rfl)
    have c2:¬((p.af.length:Int)<(p.af.length:Int)):=ω
    go_wp2_with fail
    clear k5
    go_loopg [54] l.aJ.length (λg i wr=>∃(q:Nat) (E:DataW Unit) (a:Nat) (F:Int->Bool),q<=l.aJ.length/\g=l.aJ.length-q/\i=.int .i64 q/\wr.ownsMap prog 3 (plainElem prog 3) B a E/\a<=1001+q/\
     Mp E F/\Below B f wr/\XL m (l.aJ.drop q) F=vC ⟨p,b,l,m⟩)
    case atStart=>exact⟨0,E,a,_,Zaj _,ω,rfl,J1.out,ω,J2.out,Y.out,by rw[ZbQ,vC,show Ϗ ⟨p,b,l,m⟩=st from GS.out]⟩
    case round=>
     obtain⟨q,E2,d,F,hq,rfl,rfl,C,hcnt2,U,S,hwt⟩:=hrel
     have N1:=Lib.hid C
     have N2:=Lib.hid U
     have N3:=Lib.hid S
     have N4:=Lib.hid hwt
     clear C U S hwt
     by_cases J:q<l.aJ.length
     ·obtain⟨t,ht⟩:∃t,l.aJ[q]?=some t:=⟨_,Zaf J⟩
      obtain⟨tb,tO,rfl,htr,htb⟩:=G8.out (Nat.lt_of_le_of_lt (Zaj _) J)
      obtain⟨e0,e1,e2,e3,e4,e5,e6,e7,e8,e9,e10,f0,f1⟩:=Qlf htr ht
      have tw:∀o,(wr.cell? ⟨tb,o,none⟩)=w.cell? ⟨tb,o,none⟩:=λo=>(N3.out.cell (show tb<B from Nat.lt_trans htb P)).trans (gk (K4.out tb htb))
      rw[<-tw] at e0 e1 e2 e3 e4 e5 e6 e7 e8 e9 e10
      have c3:(0:Int)<=(q:Int):=ω
      have c4:(q:Int)<(l.aJ.length:Int):=ω
      have hns:B<wr.heap.size:=by obtain⟨es,clock,hb,_⟩:=N1.out;exact(ZbU.1 hb).1
      have P1:=Lib.hid ht
      have wfp:(Lit.int .i64 t.pc).wf=true:=WalkArith.wf_i64 (cL.1 f0)
      have n:keyOf prog 3 (.int .i64 t.pc)=some (.int .i64 t.pc):=keyOf_int_mk Tryz.underlying3 wfp
      have V:∀o,(wr.alloc o).ownsMap prog 3 (plainElem prog 3) B d E2:=λo=>BA N1.out (Below.heap_alloc _ _ _ hns)
      have hbX:∀o,Below B f (wr.alloc o):=λo=>N3.out.alloc (Zcx hns) o
      have Qli:vC ⟨p,b,l,m⟩=(F t.pc&&fq t m&&XL m (l.aJ.drop (q+1)) λk=>if k=t.pc then false else F k):=by
       rw[<-N4.out,Zaq J,XL]
       have:l.aJ[q]=t:=by rw[Zaf J] at ht;exact ZbN ht
       rw[this]
      have P3:=Lib.hid f1
      have P4:=Lib.hid V
      have P5:=Lib.hid hbX
      have P6:=Lib.hid Qli
      clear ht f0 f1 tw htr V hbX Qli
      cases hF:F t.pc with
      | false=>
       have Q1:=Lib.hid hF
       clear hF
       go_wp2_with (at_lookup;refine wpList_lookup_own_int (H:=Unit) _ rfl _ _ 328 rfl 3 3 .i64 ON Tryz.underlying328 Tryz.underlying3 (Wy _) B d E2 rfl (P4.out _) _ _ rfl n ?_;intro c R hwc;obtain rfl:c=0:=by(have Q:=N2.out.2 t.pc;rw[R,Q1.out] at Q;simpa using Q))
       go_ret
       refine⟨M1,?_,KF.out _ (P5.out _)⟩
       rw[P6.out,Q1.out]
       rfl
      | true=>
       have Q1:=Lib.hid hF
       clear hF
       have G:=KP.out t _ P3.out (P5.out (Obj.cells #[.int .i64 t.pc,.int .i64 t.c0,.int .i64 t.c1,.int .i64 t.c2,.int .i64 t.c3,.int .i64 t.c4,.int .i64 t.c5,.int .i64 t.c6,.int .i64 t.c7,.int .i64 t.c8,.int .i64 t.c9] 179))
       cases N:fq t m with
       | false=>
        rw[N] at G
        have Q2:=Lib.hid N
        clear N
        go_wp2_with (first | (at_lookup;refine wpList_lookup_own_int (H:=Unit) _ rfl _ _ 328 rfl 3 3 .i64 ON Tryz.underlying328 Tryz.underlying3 (Wy _) B d E2 rfl (P4.out _) _ _ rfl n ?_;intro c R hwc;obtain rfl:c=1:=by(have Q:=N2.out.2 t.pc;rw[R,Q1.out] at Q;simpa using Q)) | (go_at_call 207;refine G.mono ?_;rintro e w3 ⟨rfl,K⟩))
        go_ret
        refine⟨M1,?_,KF.out _ ((P5.out _).trans (K.mono (by simp;omega)))⟩
        rw[P6.out,Q1.out,Q2.out]
        rfl
       | true=>
        rw[N] at G
        have Q2:=Lib.hid N
        clear N
        go_wp2_with (first | (at_lookup;refine wpList_lookup_own_int (H:=Unit) _ rfl _ _ 328 rfl 3 3 .i64 ON Tryz.underlying328 Tryz.underlying3 (Wy _) B d E2 rfl (P4.out _) _ _ rfl n ?_;intro c R hwc;obtain rfl:c=1:=by(have Q:=N2.out.2 t.pc;rw[R,Q1.out] at Q;simpa using Q)) | (go_at_call 207;refine G.mono ?_;rintro e w3 ⟨rfl,K⟩;have w3c:w3.cell? ⟨wr.heap.size,0,none⟩=some (.int .i64 t.pc):=(K.cell (by simp)).trans (by rw[iT (sR rfl _)];rfl)) | (at_mapUpdate;refine wpList_mapUpdate_own (H:=Unit) _ rfl _ _ _ 328 rfl 3 3 ON Tryz.underlying328 (plainElem prog 3) B d E2 rfl (BA (P4.out _) (K.block B (by simp;omega))) (by unfold maxLen;omega) _ _ _ rfl rfl n _ [] (plainElem_int Tryz.underlying3 (WalkArith.wf_i64 ω)) ?_;intro w4 hown4 hgrow4))
        go_roundg (l.aJ.length-(q+1))
        case measure=>omega
        case rel=>
         have hb4:Below B f w4:=((P5.out _).trans (K.mono (by simp;omega))).grown hgrow4 (by have:=K.size;simp at this;omega) λj hj=>by cases hj;exact Zah _
         exact⟨q+1,_,d+1,_,ω,rfl,by go_num,hown4,ω,N2.out.put t.pc false,hb4,by rw[P6.out,Q1.out,Q2.out];rfl⟩
     ·obtain rfl:q=l.aJ.length:=ω
      have c4:¬((l.aJ.length:Int)<(l.aJ.length:Int)):=ω
      go_wp2_with fail
      go_ret
      refine⟨?_,M1,KF.out _ N3.out⟩
      have e:vC ⟨p,b,l,m⟩=true:=by rw[<-N4.out,ZbH];rfl
      rw[e]
      rfl
theorem QcO:Ok VG:=by
 refine⟨⟨f208,_,by kernel_rfl,cN (by kernel_rfl)⟩,λy t M A w a i j R h=>?_⟩;obtain⟨p,r,l,m⟩:=y;obtain⟨k,h0,h1,g⟩:=t;obtain⟨A⟩:=A;obtain⟨v,A,rfl,a0,a⟩:=LR.aM a;obtain⟨x,A,rfl,f,a⟩:=a.aM;obtain⟨z,A,rfl,a2,a⟩:=a.aM;obtain⟨v3,A,rfl,a3,a⟩:=a.aM;obtain rfl:=a.jA;obtain rfl:=fE f;obtain⟨rfl,q⟩:=eA a3;obtain⟨n,rfl⟩:=Zau h0;have b:n<p.av.length:=Zd0.1 h1;have c:p.av[n]?=some (Ϗ ⟨p,n,l,m⟩):=by
  show _=some (p.av.getD (Int.toNat n) 0)
  grind
 exact(Qaa b c k g i j q a0 a2).mono λe u ⟨d,o,s⟩=>by rw[o];exact h d _ u (.bool _) s.QcN
end sx
set_option maxRecDepth 100000
set_option maxHeartbeats 4000000
namespace sx
noncomputable section
open Go Go.RowKit cls syn
structure oN where
 p:iC
 m:Int
 L:List dd
def OO (l:dd):aX:=⟨0,l.c0,l.c1,l.c2,l.c3,l.c4,l.c5,l.c6,l.c7,l.c8,l.c9⟩
def wlN (l:dd):Bool:=(oz (OO l)).all λx=>decide (x= -1)
def uS (y:oN) (i:Nat):Bool:=!(!(y.L.getD i fu).done&&!wlN (y.L.getD i fu))&&fq (OO (y.L.getD i fu)) y.m&&vC ⟨y.p,i,y.L.getD i fu,y.m⟩
def gh (y:oN):Nat->Bool
 | 0=>true
 | k+1=>gh y k&&uS y k
def gX (y:oN):Bool:=lk (decide (0<=y.m)&&decide (y.m<=1099511627776)&&decide (y.L.length=y.p.av.length)&&gh y y.L.length)
def sZ (y:oN):Prop:=F5 y.p/\y.L.length<=1000/\∀l∈y.L,l.aJ.length<=1000000
def mcA (y:oN):AV D.E:=.agg [.int .i64 y.m,.list 2 y.L]
def QsY (v:AV D.E) (s:St D.E):C (Int×List dd):=az (asAgg v) λcs=>match cs with
 | [m,l]=>aP (cT m) λ_ m=>az (aL D s 2 l) λl=>.ret (m,(l:List dd))
 | _=>.fail
def QsZ (a:List (AV D.E)) (s:St D.E):C oN:=match a with
 | [p,m]=>az (Hk p s) λp=>aP (QsY m s) λm l=>.ret ⟨p,m,l⟩
 | _=>.fail
def OP:bh D:=bO 165 oN QsZ sZ (λy=>[Hj y.p,mcA y]) λy=>.bool (gX y)
def Qs0 (y:OP.Y):cH D:=⟨[],[],[(58,⟨Nat,[30,31],λk=>[(2,.ptr 0 0),(3,.ptr 1 0),(32,Qvo k)],[],λ_=>[SU (oN.p y),(1,.cells [Qvo (oN.m y),.list 2 (oN.L y)] 31 false)],2,λk=>k<=(oN.L y).length/\gh y k,λk=>(oN.L y).length-k⟩)],[],1,[]⟩
def Wz (y:oN):Prop:=let d:=ag y.L;let q1:=y.L.length;let k:=aw 1099511627776 y.m;let l:=!(aB d (ag y.p.av));let e:=λp:Prop=>RAH y.L d p;let f:=λp:Prop=>RAH y.m y.L (RA3 y.p p);let n:Prop:=(RAG y.m (false=gX y/\True));Iv (F5 y.p)/\RA3 y.p (aj (aw y.m 0) (false=gX y/\True) (aj k (false=gX y/\True) (aj l (false=gX y/\True) ((∃z:Nat,e (0=(z:Int)/\f ((Iv (z<=q1/\gh y z)))))/\(∀x:Nat,let a:=gt (dd.mk false 0 0 0 0 0 0 0 0 0 0 []) y.L (x:Int).toNat;let c:=zO.mk y.p (x:Int) a y.m;let h:=!(fq (aX.mk 0 a.c0 a.c1 a.c2 a.c3 a.c4 a.c5 a.c6 a.c7 a.c8 a.c9) y.m);let g:=!((aB a.c0 (-1))&&((aB a.c1 (-1))&&((aB a.c2 (-1))&&((aB a.c3 (-1))&&((aB a.c4 (-1))&&((aB a.c5 (-1))&&((aB a.c6 (-1))&&((aB a.c7 (-1))&&((aB a.c8 (-1))&&(aB a.c9 (-1)))))))))));let b:=λp:Prop=>aa [a.c0,a.c1,a.c2,a.c3,a.c4,a.c5,a.c6,a.c7,a.c8,a.c9,y.m] p;let i:Prop:=(b (false=gX y/\True));let j:Prop:=(aa [a.c0,a.c1,a.c2,a.c3,a.c4,a.c5,a.c6,a.c7,a.c8,a.c9,y.m] (aa [y.p.af] (aa [y.p.av] (aa [a.done] (aa [a.c0,a.c1,a.c2,a.c3,a.c4,a.c5,a.c6,a.c7,a.c8,a.c9] (aa [a.aJ] (aa [y.m] (aj (!(vC c)) (false=gX y/\True) (∃z:Nat,e (ay .i64 (x:Int) 1=(z:Int)/\f ((Iv ((z<=q1/\gh y z)/\(q1-z)<(q1-x))))))))))))));(Iv (x<=q1/\gh y x))->aj (aw (x:Int) d) (aG 0 (x:Int)/\aw (x:Int) d/\aj (!a.done) (Iv True/\aj g (aa [a.done] (aa [a.c0,a.c1,a.c2,a.c3,a.c4,a.c5,a.c6,a.c7,a.c8,a.c9,a.c0,a.c1,a.c2,a.c3,a.c4,a.c5,a.c6,a.c7,a.c8,a.c9] (false=gX y/\True))) (Iv True/\b (aj h (aa [a.done] (aa [a.c0,a.c1,a.c2,a.c3,a.c4,a.c5,a.c6,a.c7,a.c8,a.c9,a.c0,a.c1,a.c2,a.c3,a.c4,a.c5,a.c6,a.c7,a.c8,a.c9,a.c0,a.c1,a.c2,a.c3,a.c4,a.c5,a.c6,a.c7,a.c8,a.c9,y.m] (false=gX y/\True))) (Iv (wtP c)/\aa [y.p.af] (aa [y.p.av] (aa [(x:Int)] (aa [a.done] (aa [a.c0,a.c1,a.c2,a.c3,a.c4,a.c5,a.c6,a.c7,a.c8,a.c9] (aa [a.aJ] (aa [y.m] (aa [a.done] (aa [a.c0,a.c1,a.c2,a.c3,a.c4,a.c5,a.c6,a.c7,a.c8,a.c9,a.c0,a.c1,a.c2,a.c3,a.c4,a.c5,a.c6,a.c7,a.c8,a.c9,a.c0,a.c1,a.c2,a.c3,a.c4,a.c5,a.c6,a.c7,a.c8,a.c9,y.m] (aa [y.p.af] (aa [y.p.av] (aa [a.done] (aa [a.c0,a.c1,a.c2,a.c3,a.c4,a.c5,a.c6,a.c7,a.c8,a.c9] (aa [a.aJ] (aa [y.m] (aj (!(vC c)) (false=gX y/\True) (∃z:Nat,e (ay .i64 (x:Int) 1=(z:Int)/\f ((Iv ((z<=q1/\gh y z)/\(q1-z)<(q1-x))))))))))))))))))))))))) (Iv True/\b (aj h (aa [a.done] (aa [a.c0,a.c1,a.c2,a.c3,a.c4,a.c5,a.c6,a.c7,a.c8,a.c9,y.m] (false=gX y/\True))) (Iv (wtP c)/\aa [y.p.af] (aa [y.p.av] (aa [(x:Int)] (aa [a.done] (aa [a.c0,a.c1,a.c2,a.c3,a.c4,a.c5,a.c6,a.c7,a.c8,a.c9] (aa [a.aJ] (aa [y.m] (aa [a.done] (aa [a.c0,a.c1,a.c2,a.c3,a.c4,a.c5,a.c6,a.c7,a.c8,a.c9,y.m] (aa [y.p.af] (aa [y.p.av] (aa [a.done] (aa [a.c0,a.c1,a.c2,a.c3,a.c4,a.c5,a.c6,a.c7,a.c8,a.c9] (aa [a.aJ] (aa [y.m] (aj (!(vC c)) (false=gX y/\True) (∃z:Nat,e (ay .i64 (x:Int) 1=(z:Int)/\f ((Iv ((z<=q1/\gh y z)/\(q1-z)<(q1-x))))))))))))))))))))))))) (true=gX y/\True))))))
theorem FL {y:oN}:∀{n k:Nat},k<=n->gh y n->gh y k
 | 0,k,h,e=>by
  obtain rfl:k=0:=ω;exact e
 | n+1,k,h,e=>by
  rw[gh,ZaW] at e;by_cases hk:k=n+1
  ·grind [gh]
  ·exact FL ω e.1
theorem kn (y:oN):gX y=(decide (0<=y.m)&&decide (y.m<=1099511627776)&&decide (y.L.length=y.p.av.length)&&gh y y.L.length):=aC _
theorem Ju {y:oN} {x:Nat} (a:x<y.L.length) (h:uS y x=false):false=gX y:=by
 rw[kn];cases e:gh y y.L.length with
 | false=>simp
 | true=>
  have:=FL (show x+1<=y.L.length by omega) e;grind [gh]
def WA (l:dd):wlN l=decide (l.c0= -1/\l.c1= -1/\l.c2= -1/\l.c3= -1/\l.c4= -1/\l.c5= -1/\l.c6= -1/\l.c7= -1/\l.c8= -1/\l.c9= -1):=by simp[wlN,OO,oz]
theorem Qs2 (y:oN) (j:sZ y):Wz y:=by
 unfold Wz;have⟨h,q,i⟩:=j;have⟨s,u,v,w,k,l⟩:=h;simp only[bL,bC,au,dq,Zad,Zan,Zao];refine⟨h,λk1=>?_,λk1=>⟨λk2=>?_,λk2=>⟨λk3=>?_,λk3=>⟨⟨0,rfl,Zaj _,rfl⟩,λx r=>⟨λk4=>?_,λk4=>?_⟩⟩⟩⟩⟩
 ·grind [kn]
 ·grind [kn]
 ·grind [kn]
 ·have b:x<y.L.length:=ω;have d:x<y.p.av.length:=ω;have ht:y.L.getD x fu∈y.L:=by grind
  have hw:wtP ⟨y.p,↑x,y.L.getD x fu,y.m⟩:=by
   have⟨n,o,_⟩:=l x d;exact⟨⟨k,n,o⟩,ZaF _,Zd0.2 d,i _ ht⟩
  have hi:ay .i64 ↑x 1=((x+1:Nat):Int):=ba ω ω;have g:uS y x->gh y (x+1):=λe=>by grind [gh]
  have f:(⟨false,0,0,0,0,0,0,0,0,0,0,[]⟩:dd)=fu:=rfl;have c:∀e:uS y x,∃z:Nat,ay .i64 ↑x 1=↑z/\(z<=y.L.length/\gh y z)/\y.L.length-z<y.L.length-x:=λe=>⟨x+1,hi,⟨b,g e⟩,ω⟩
  have a:=Ju b;simp only[f];have hu:uS y x=(!(!(y.L.getD x fu).done&&!wlN (y.L.getD x fu))&&fq (OO (y.L.getD x fu)) y.m&&vC ⟨y.p,x,y.L.getD x fu,y.m⟩):=rfl;rw[WA] at hu;unfold OO at hu;generalize vC ⟨y.p,x,y.L.getD x fu,y.m⟩=W at*
  generalize fq ⟨0,(y.L.getD x fu).c0,(y.L.getD x fu).c1,(y.L.getD x fu).c2,(y.L.getD x fu).c3,(y.L.getD x fu).c4,(y.L.getD x fu).c5,(y.L.getD x fu).c6,(y.L.getD x fu).c7,(y.L.getD x fu).c8,(y.L.getD x fu).c9⟩ y.m=PP at*
  generalize y.L.getD x fu=t at*
  refine⟨ω,ω,λk5=>⟨λk6=>a ?_,λk6=>⟨λk7=>a ?_,λk7=>⟨hw,λk8=>a ?_,λk8=>c ?_⟩⟩⟩,λk5=>⟨λk7=>a ?_,λk7=>⟨hw,λk8=>a ?_,λk8=>c ?_⟩⟩⟩
  all_goals rw[hu]
  all_goals simp_all [aB]
 ·grind [kn]
def Qlk (a:Ok dB):Ok OP:=okZ [NF,Nu,VF,VG] f165 Qs0 ⟨Qip a,Qb5,QcI,QcO⟩ Qs2
def Qac (x:aW) (i:Int):List Int:=if x.op=2 then[x.x,x.y] else if x.op=3 then[x.x] else if x.op=7 then[] else[i+1]
def tX (af:List aW) (i:Int):List Int:=Qac (af.getD i.toNat cX) i
def WB (a:List (AV D.E)) (s:St D.E):C (iC×Int):=match a with
 | [p,i]=>az (Hk p s) λp=>aP (cT i) λ_ i=>.ret (p,i)
 | _=>.fail
def QfI (y:iC×Int):Prop:=0<=y.2/\y.2<y.1.af.length/\y.1.af.length<=1000
def Qad:bh D:=bO 238 (iC×Int) WB QfI (λy=>[Hj y.1,Qvo y.2]) λy=>.list 5 (tX y.1.af y.2)
def vG (y:iC×Int):Int:=y.1.av.getD y.2.toNat 0
def Qae (y:iC×Int):Prop:=ND (y.1.af,vG y)/\0<=y.2/\y.2<y.1.av.length
def OQ:bh D:=bO 200 (iC×Int) WB Qae (λy=>[Hj y.1,Qvo y.2]) λy=>.list 17 (lJ y.1.af (vG y))
def Qs4 (y:OQ.Y):cH D:=⟨[],[3,4],[(124,⟨sy,[],λx=>[(2,.ptr 0 0),(5,.own 1 1 (ag x.s)),(6,.own 2 1 (ag x.l))],[],λx=>[SU (Prod.fst (α:=iC) y),(1,.arr 17 x.s 4 false),(2,.arr 5 x.l 3 false)],3,qC ((Prod.fst (α:=iC) y).af,vG y),λx=>x.f⟩)],[],1,[]⟩
def QfJ (y:iC×Int):Prop:=YQ y/\HD y.1 y.2
def Qaf:bh D:=bO 237 (iC×Int) WB QfJ (λy=>[Hj y.1,Qvo y.2]) λ_=>.lit true
def WC:bh D:={ NF with f:=198 }
def Qs7 (y:WC.Y):cH D:=⟨[],[],[(58,⟨Nat,[],λk=>[(1,.ptr 0 0),(3,Qvo k)],[],λ_=>[SU y],1,λk=>k<=(iC.af y).length,λk=>(iC.af y).length-k⟩),
 (122,⟨Nat,[],λk=>[(1,.ptr 0 0),(4,Qvo k)],[],λ_=>[SU y],1,λk=>k<=(iC.av y).length,λk=>(iC.av y).length-k⟩),
 (250,⟨Nat,[],λk=>[(1,.ptr 0 0),(5,Qvo k)],[],λ_=>[SU y],1,λk=>k<=(iC.av y).length,λk=>(iC.av y).length-k⟩)],[],1,
 [(32038,⟨Nat,λr=>⟨Nat,[5,6],λk=>[(1,.ptr 0 0),(7,Qvo k)],[],λ_=>[SU y],1,λk=>k<=(iC.af y).length/\r<(iC.av y).length,λk=>(iC.af y).length-k⟩,none⟩)]⟩
def QfK:bh D:={ Nu with f:=99 }
def Qll:bh D:={ VF with f:=199 }
def QcP (y:iC×Int):Prop:=let a:=tX y.1.af y.2;let q1:=gt (aW.mk 0 0 0 []) y.1.af y.2.toNat;aG 0 y.2/\aw y.2 (ag y.1.af)/\aj (aB q1.op 2) (([q1.x,q1.y]:List Int)=a/\True) (aj (aB q1.op 3) (([q1.x]:List Int)=a/\True) (aj (aB q1.op 7) ([]=a/\True) (([ay .i64 y.2 1]:List Int)=a/\True)))
def QcQ (y:iC×Int):Prop:=let d:=ag y.1.af;let q1:=lJ y.1.af (vG y);let e:=oF d false;let m:=aG (ag y.1.av) y.2;let k:=([gt 0 y.1.av y.2.toNat]:List Int);let j:=λp:Prop=>RA3 y.1 p;aG 0 d/\aG d d/\bJ d 1/\aj (aw y.2 0) (e=q1/\True) (aj m (e=q1/\True) (aG 0 y.2/\aw y.2 (ag y.1.av)/\(∃z:sy,ag e=ag z.s/\ag k=ag z.l/\k=z.l/\e=z.s/\j ((Iv (qC (y.1.af,vG y) z))))/\(∀x:sy,let g:=ag x.l;let b:=cx .i64 g 1;let i:=(y.1.af,vG y);let a:=gt 0 x.l b.toNat;let h:=gt false x.s a.toNat;let c:=bM (dE x.l b) (tX y.1.af a);(Iv (qC i x))->aj (aw 0 g) (aG 0 b/\aw b g/\aG 0 b/\aG b g/\aG 0 a/\aw a (ag x.s)/\aj h (∃z:sy,ag x.s=ag z.s/\b=ag z.l/\dE x.l b=z.l/\x.s=z.s/\j ((Iv (qC i z/\z.f<x.f)))) (aG 0 a/\aw a (ag x.s)/\Iv (QfI (y.1,a))/\RA3 y.1 (RAG a (bJ (ag c) 8/\∃z:sy,ag x.s=ag z.s/\ag c=ag z.l/\c=z.l/\cS x.s a.toNat true=z.s/\j ((Iv (qC i z/\z.f<x.f))))))) (x.s=q1/\True))))
def QcR (y:iC×Int):Prop:=let a:=ag y.1.af;let q1:=gt (aW.mk 0 0 0 []) y.1.af y.2.toNat;let c:=ag q1.bm;let i:=aG (ag y.1.av) q1.x;let j:=!(decide (q1.bm=aU q1.bm));let d:Prop:=(aw (ay .i64 y.2 1) a/\True);let e:Prop:=(aj (aB c 0) (True) (False));let f:Prop:=(aj (aB q1.y 0) (aj (aB c 0) (d) (False)) (False));let g:Prop:=(aj (aB q1.x 0) (f) (False));let h:Prop:=(aj (aB q1.x q1.x) (aj (aB q1.y 0) (e) (False)) (False));let b:Prop:=(aj (aB q1.op 7) (aj (aw q1.x 0) (False) (aj i (False) (h))) (False));aG 0 y.2/\aw y.2 a/\aj (aB q1.op 1) (Iv (q1.bm.length<=2000000)/\RAG q1.bm (aj j (False) (aj (aB q1.x 0) (aj (aB q1.y 0) (aj (aB c c) (d) (False)) (False)) (False)))) (aj (aB q1.op 2) (RAI q1.x q1.y q1.y (aj (aw q1.x 0) (False) (aj (aG a q1.x) (False) (aj (aw q1.y 0) (False) (aj (aG a q1.y) (False) (aj (aB q1.x q1.x) (aj (aB q1.y q1.y) (e) (False)) (False))))))) (aj (aB q1.op 3) (aj (aw q1.x 0) (False) (aj (aG a q1.x) (False) (h))) (aj (aB q1.op 4) (aj (aw q1.x 0) (False) (aj (aG 10 q1.x) (False) (aj (aB q1.x q1.x) (f) (False)))) (aj (aB q1.op 5) (aj (aB q1.op 5) (g) (b)) (aj (aB q1.op 6) (g) (b))))))
def QcS (y:iC):Prop:=let b:=y.af.length;let q1:=ag y.av;let a:=y.av.length;let m:=ag y.af;let h:=λp:Prop=>RA3 y p;let s:Prop:=(∃z:Nat,0=(z:Int)/\h ((Iv (z<=a))));aj (aw 400 m) (False) (aj (aw 8 q1) (False) ((∃z:Nat,0=(z:Int)/\h ((Iv (z<=b))))/\(∀x:Nat,(Iv (x<=b))->aj (aw (x:Int) m) (Iv (QfJ (y,(x:Int)))/\RA3 y (RAG (x:Int) (∃z:Nat,ay .i64 (x:Int) 1=(z:Int)/\h ((Iv (z<=b/\(b-z)<(b-x))))))) ((s)/\(∀i:Nat,let q:=aw (i:Int) q1;let k:=gt 0 y.av (i:Int).toNat;(Iv (i<=a))->aj q (aG 0 (i:Int)/\q/\aj (aw k 0) (RAH y.av k (False)) (aG 0 (i:Int)/\q/\RAK y.av k y.av k y.af (aj (aG m k) (False) (∃z:Nat,ay .i64 (i:Int) 1=(z:Int)/\h ((Iv (z<=a/\(a-z)<(a-i)))))))) ((s)/\(∀e:Nat,let t:=aw (e:Int) q1;let r:=lJ y.af (vG (y,(e:Int)));let l:=λp:Prop=>RAH (e:Int) r p;(Iv (e<=a))->aj t (Iv (Qae (y,(e:Int)))/\RA3 y (RAG (e:Int) (∃z:Nat,(∃d:Nat,l (0=(d:Int)/\h ((Iv (d<=b/\z<a)))))/\(∀c:Nat,let f:=aw (c:Int) m;let n:=gt false r (c:Int).toNat;let j:=gt (aW.mk 0 0 0 []) y.af (c:Int).toNat;let o:=!(aB j.x (e:Int));let g:Prop:=(∃d:Nat,l (ay .i64 (c:Int) 1=(d:Int)/\h ((Iv ((d<=b/\z<a)/\(b-d)<(b-c))))));(Iv (c<=b/\z<a))->aj f (aG 0 (c:Int)/\aw (c:Int) (ag r)/\aj n (aG 0 (c:Int)/\f/\aj (aB j.op 7) (aG 0 (c:Int)/\f/\aj o (False) (g)) (g)) (g)) (∃d:Nat,ay .i64 (e:Int) 1=(d:Int)/\h ((Iv (d<=a/\(a-d)<(a-e))))))))) (True))))))))
theorem Qlm:Ok Qad:=okZ (V:=QcP) [] f238 (λ_=>dY ()) trivial λy a=>by
 have⟨h1,b,c⟩:=a;grind [QcP,tX,Qac]
theorem L4 {af:List aW} {i:Int} (a:tgP af) (h0:0<=i) (h1:i<af.length):(tX af i).length<=2/\∀j∈tX af i,0<=j/\j<(af.length:Int):=by
 obtain⟨n,rfl⟩:=Zau h0;have⟨b,c,d⟩:=a.2 n ω;grind [tX,Qac]
theorem OS {y:List aW×Int} {f:Nat} {s:List Bool} {l:List Int} {m:Nat} (c:tgP y.1) (g:qC y ⟨f+1,s,l⟩) (e:l.length=m+1):(0<=l.getD m 0/\l.getD m 0<y.1.length)/\(s.getD (l.getD m 0).toNat false->qC y ⟨f,s,l.take m⟩)/\(s.getD (l.getD m 0).toNat false=false->qC y ⟨f,s.set (l.getD m 0).toNat true,l.take m++tX y.1 (l.getD m 0)⟩):=by
 have⟨b,e2,n,o,a⟩:=g;have hi:=e2 (l.getD m 0) (by grind);have hk:∀i∈l.take m,0<=i/\i<↑y.1.length:=λi hi=>e2 i (Zcg hi)
 rw[j4,e,Zde] at a;have⟨q1,k⟩:=L4 c hi.1 hi.2;refine⟨hi,λh=>?_,λh=>?_⟩
 ·rw[Zac h] at a;exact⟨b,hk,by grind,by grind,a⟩
 ·rw[Zaa (by grind)] at a;refine⟨List.length_set.trans b,λj d=>(Zax.1 d).elim (hk j) (k j),?_,by grind,?_⟩
  ·grind
  ·grind [tX,Qac]
theorem QcT:Ok OQ:=okZ (V:=QcQ) [Qad] f200 Qs4 Qlm λy u=>by
 obtain⟨⟨c1,B,C⟩,v,w⟩:Qae y:=u;have c0:y.1.af.length<=1000:=c1.1;unfold QcQ;simp only[bL,bC,au,cS,br,aT];refine⟨ω,ω,ω,λh=>ω,λ_=>⟨λh=>ω,λ_=>⟨v,w,⟨⟨3*y.1.af.length+1,KR y.1.af.length,[vG y]⟩,rfl,rfl,rfl,rfl,by grind [KR],λi hi=>?_,?_,Zah _,rfl⟩,λx c=>⟨λh=>?_,λh=>?_⟩⟩⟩⟩
 ·grind
 ·unfold KR;simp
 ·have⟨f,s,l⟩:=x;simp only at c h ⊢;have⟨o,e2,p,q,d⟩:=c;simp only at o e2 p q d;obtain⟨m,r⟩:∃m,l.length=m+1:=⟨l.length-1,ω⟩;obtain⟨f,rfl⟩:∃g,f=g+1:=⟨f-1,ω⟩;have t:cx .i64 ↑l.length 1=↑m:=by
   grind
  have⟨q1,j,n⟩:=OS c1 c r;have e:dE l ↑m=l.take m:=rfl;have a:(l.take m).length=m:=by grind
  rw[t,Zad,dq,e];have⟨z,A⟩:=L4 c1 q1.1 q1.2;replace q1:0<=l.getD m 0/\l.getD m 0<↑y.1.af.length:=q1;generalize l.getD m 0=i at q1 j n z A ⊢;generalize l.take m=k at j n a ⊢;refine⟨ω,ω,ω,ω,q1.1,ω,λb=>⟨⟨f,s,k⟩,rfl,by rw[a],rfl,rfl,j b,Zbr _⟩,λb=>⟨q1.1,ω,⟨q1.1,q1.2,c0⟩,?_,⟨f,s.set i.toNat true,k++tX y.1.af i⟩,by grind,rfl,rfl,rfl,n b,Zbr _⟩⟩;grind
 ·have⟨f,s,l⟩:=x;have⟨o,e2,p,q,d⟩:=c;rw[<-d];cases f with
  | zero=>rfl
  | succ f=>rw[j4,Zac ω]
theorem Qln (f:Ok gA):Ok Qaf:=okZ (V:=QcR) [x_] f237 (λ_=>dY ()) (SO f) λy g=>by
 obtain⟨⟨h1,d,h,e⟩,b⟩:QfJ y:=g;have hi:ay .i64 y.2 1=y.2+1:=ba ω ω;have i:(gt (aW.mk 0 0 0 []) y.1.af y.2.toNat).bm.length<=1000000:=by
  grind
 have c:HD y.1 y.2=Ez (gt (aW.mk 0 0 0 []) y.1.af y.2.toNat) (aw (y.2+1) (ag y.1.af)) (ag y.1.af) (ag y.1.av):=rfl;have a:=dA.2 d;rw[c] at b;unfold QcR;rw[hi];unfold Ez ij at b;clear e c a
 with_reducible repeat' first | apply And.intro | intro _
 all_goals grind
theorem Qlo (e:Ok gA):Ok WC:=okZ (V:=QcS) [Qaf,OQ] f198 Qs7 ⟨Qln e,QcT⟩ λ(y:iC) i=>by
 obtain⟨p1,p2,p3,p4,p5,p6⟩:F5 y:=i;unfold QcS;simp only[bL,bC,au,Zad,dq,Zan,Zao];have up:∀{n x:Nat},x<n->n<=1000->∃z:Nat,ay .i64 ↑x 1=↑z/\z<=n/\n-z<n-x:=λh l=>⟨_+1,ba ω ω,ω,ω⟩
 refine⟨λh=>ω,λh=>⟨λh=>ω,λh=>⟨⟨0,rfl,Zaj _⟩,λx g=>⟨λk=>?_,λk=>⟨⟨0,rfl,Zaj _⟩,λr f=>⟨λk=>?_,λk=>⟨⟨0,rfl,Zaj _⟩,λr f=>⟨λk=>?_,λk=>trivial⟩⟩⟩⟩⟩⟩⟩⟩
 ·have b:x<y.af.length:=ω;exact⟨⟨⟨ω,k,by grind,p4⟩,p3 x b⟩,up b ω⟩
 ·have a:r<y.av.length:=ω;have⟨d,a2,a3⟩:=p6 r a;exact⟨ω,k,λh=>ω,λ_=>⟨ω,k,λh=>ω,λ_=>up a ω⟩⟩
 ·have a:r<y.av.length:=ω;have⟨d,a2,a3⟩:=p6 r a;have m:vG (y,↑r)=y.av.getD r 0:=rfl;refine⟨⟨⟨p5,d,a2⟩,ω,k⟩,r,⟨0,rfl,Zaj _,a⟩,λx g=>⟨λk2=>?_,λ_=>up a ω⟩⟩;have b:x<y.af.length:=ω;have⟨z,j,z2,z3⟩:=up b ω;have c:∃z:Nat,ay .i64 ↑x 1=↑z/\(z<=y.af.length/\r<y.av.length)/\y.af.length-z<y.af.length-x:=⟨z,j,⟨z2,a⟩,z3⟩;exact⟨ω,by rw[mT];exact k2,λs=>⟨ω,k2,λo=>⟨ω,k2,λh=>h (a3 x b s o),λ_=>c⟩,λ_=>c⟩,λ_=>c⟩
theorem QcU:Ok QfK:=okZ (V:=KL) [] f99 (λ_=>⟨[],[],[],[],11,[]⟩) trivial λy a=>by
 grind [KL]
def Qlp:Ok Qll:=okZ (V:=LD) [] f199 (λ_=>⟨[],[],[],[],11,[]⟩) trivial λy _=>Qkx y
structure C5 where
 v:oN
 h:By
def swA (y:C5):AV D.E:=.agg [.list 0 y.h,.int .i64 y.v.m,.list 2 y.v.L]
def Qlq (p v:AV D.E) (s:St D.E):C C5:=az (Hk p s) λp=>az (asAgg v) λcs=>match cs with
 | [h,m,l]=>az (aL D s 0 h) λh=>aP (cT m) λ_ m=>az (aL D s 2 l) λl=>.ret ⟨⟨p,m,(l:List dd)⟩,(h:By)⟩
 | _=>.fail
def Qs9 (a:List (AV D.E)) (s:St D.E):C C5:=match a with
 | [p,v]=>Qlq p v s
 | _=>.fail
def C6 (h:By):Bool:=decide (h=[])||ji h
def uxC:bh D:=⟨102,By×Bool,λa s=>az (Nt a s) λh=>.split (C6 h) (.ret (h,true)) (.ret (h,false)),λy=>y.2=C6 y.1,λy=>[.list 0 y.1],λ_=>[],λy=>match y.2 with
 | true=>.tuple [.ptr 0 0,.num .i64 0]
 | false=>.tuple [.fT,.num .i64 4],λy=>match y.2 with
 | true=>dcO (uoF y.1)
 | false=>[],0,1⟩
def FM (y:C5):Prop:=sZ y.v
def XM (y:C5):Bool:=gX y.v&&C6 y.h
def WD:bh D:=bO 104 C5 Qs9 FM (λy=>[Hj y.v.p,swA y]) λy=>.bool (XM y)
def mc (y:C5×Int):Bool:=XM y.1&&aB (ay .i64 y.1.v.m (ag y.1.h)) y.2
def WE:bh D:=bO 64 (C5×Int) (λa s=>match a with
 | [p,v,n]=>az (Qlq p v s) λy=>aP (cT n) λ_ n=>.ret (y,n)
 | _=>.fail) (λy=>FM y.1) (λy=>[Hj y.1.v.p,swA y.1,Qvo y.2]) λy=>.bool (mc y)
def WG (y:List UInt8):Prop:=let a:Prop:=(Iv True/\cy (aw 0 (dD y)) (sat y 0) 0=lX y 0/\cy (aw 1 (dD y)) (sat y 1) 0=lX y 1/\cy (aw 2 (dD y)) (sat y 2) 0=lX y 2/\cy (aw 3 (dD y)) (sat y 3) 0=lX y 3/\cM 4 (dD y)=ite (y.length<=4) (y.length:Int) 4/\True);Iv True/\RAG y (aj (!(ji y)) (aj (aw 0 (ag y)) (False) (a)) (a))
def WH (y:List UInt8):Prop:=Iv True/\aa [y] (aj (!(ji y)) (aj (aw 0 (ag y)) (True) (Iv True/\False)) (Iv True/\False))
def QcV (y:C5):Prop:=let a:=C6 y.h;aj a (Iv (true=a)/\RAG y.h (Iv (sZ y.v)/\aa [y.v.p.af] (aa [y.v.p.av] (aa [y.v.m] (aa [y.v.L] (gX y.v=XM y/\True)))))) (Iv (false=a)/\RAG y.h (false=XM y/\True))
def L5 (y:C5×Int):Prop:=Iv (FM y.1)/\RA3 y.1.v.p (RAI y.1.h y.1.v.m y.1.v.L (aj (XM y.1) (aB (ay .i64 y.1.v.m (ag y.1.h)) y.2=mc y/\True) (false=mc y/\True)))
theorem Qte (y:By) (a:true=C6 y):WG y:=by
 have h:=uoH y (by grind [C6]);grind [QeN,WG]
theorem Qtf (y:By) (a:false=C6 y):WH y:=by
 grind [WH,List.length_pos_iff,C6]
def Qtg:Ok uxC:=Qo5 (k:=uxC) (T:=WG) (F:=WH) [po,unC] f102 (λ_=>dY ()) id id (λ_=>rfl) ⟨Cq,QoL⟩ Qte Qtf
theorem Qls (b:Ok dB):Ok WD:=okZ (V:=QcV) [uxC,OP] f104 (λ_=>dY ()) ⟨Qtg,Qlk b⟩ λy a=>by
 have a:sZ y.v:=a;grind [QcV,XM]
theorem Qlt (y:C5×Int) (a:FM y.1):L5 y:=by
 grind [L5,mc]
def Qlu (a:Ok dB):Ok WE:=okZ [WD] f64 (λ_=>dY ()) (Qls a) Qlt
structure Dh where
 h:By
 m:Int
 L:List dd
def XN (y:Dh):List (AV D.E):=[.list 0 y.h,.int .i64 y.m,.list 2 y.L]
def zS (h m l:AV D.E) (s:St D.E):C Dh:=az (aL D s 0 h) λh=>aP (cT m) λ_ m=>az (aL D s 2 l) λl=>.ret ⟨(h:By),m,(l:List dd)⟩
def fb (y:Dh):Bool:=aB (ag y.h) 0&&aB y.m 0&&aB (ag y.L) 0
def OT:bh D:=bO 66 Dh (λa s=>match a with
 | [v]=>az (asAgg v) λcs=>match cs with
  | [h,m,l]=>zS h m l s
  | _=>.fail
 | _=>.fail) (λ_=>True) (λy=>[.agg (XN y)]) λy=>.bool (fb y)
structure OU where
 l:List dd
 n:Int
 z:Int
def edC (d:Bool) (z:Int) (t:aX):Bool:=(oz t).all λx=>decide (-1<=x)&&decide (x<=z)&&(d||decide (x= -1))
def OV (y:OU) (i:Nat):Bool:=decide ((y.l.getD i fu).aJ.length=0)&&edC (y.l.getD i fu).done y.z (OO (y.l.getD i fu))
def mf (y:OU):Nat->Bool
 | 0=>true
 | k+1=>mf y k&&OV y k
def gF (y:OU):Bool:=lk (decide ((y.l.length:Int)=y.n)&&mf y y.l.length)
def OW:bh D:=bO 67 OU (λa s=>match a with
 | [l,n,z]=>az (aL D s 2 l) λl=>aP (cT n) λ_ n=>aP (cT z) λ_ z=>.ret ⟨(l:List dd),n,z⟩
 | _=>.fail) (λy=>y.l.length<=1000) (λy=>[.list 2 y.l,Qvo y.n,Qvo y.z]) λy=>.bool (gF y)
def Qti (y:OW.Y):cH D:=⟨[],[],[(58,⟨Nat,[2,15,16],λk=>[(17,Qvo k)],[],λ_=>[],0,λk=>k<=(OU.l y).length/\mf y k,λk=>(OU.l y).length-k⟩)],[],11,[]⟩
def L6 (y:Dh):Prop:=aj (aB (ag y.h) 0) (aj (aB y.m 0) (aB (ag y.L) 0=fb y/\True) (false=fb y/\True)) (false=fb y/\True)
def WI (y:OU):Prop:=let b:=y.l.length;let q1:=ag y.l;let u:=λp:Prop=>RAI y.z y.l q1 p;aj (!(aB q1 y.n)) (false=gF y/\True) ((∃z:Nat,u (0=(z:Int)/\(Iv (z<=b/\mf y z))))/\(∀x:Nat,let a:=gt (dd.mk false 0 0 0 0 0 0 0 0 0 0 []) y.l (x:Int).toNat;let v:=aw 0 (ag a.aJ);let w:=!(aB a.c5 (-1));let A:=!(aB a.c4 (-1));let B:=!(aB a.c2 (-1));let C:=!(aB a.c6 (-1));let D:=!(aB a.c3 (-1));let o:=!(aB a.c7 (-1));let q:=!(aB a.c0 (-1));let r:=!(aB a.c1 (-1));let s:=!(aB a.c9 (-1));let t:=!(aB a.c8 (-1));let c:Prop:=(∃z:Nat,u (ay .i64 (x:Int) 1=(z:Int)/\(Iv ((z<=b/\mf y z)/\(b-z)<(b-x)))));let d:Prop:=(aj (aw a.c9 (-1)) (false=gF y/\True) (aj (aw y.z a.c9) (false=gF y/\True) (aj (!a.done) (aj s (false=gF y/\True) (c)) (c))));let e:Prop:=(aj (aw a.c8 (-1)) (false=gF y/\True) (aj (aw y.z a.c8) (false=gF y/\True) (aj (!a.done) (aj t (false=gF y/\True) (d)) (d))));let f:Prop:=(aj (aw a.c7 (-1)) (false=gF y/\True) (aj (aw y.z a.c7) (false=gF y/\True) (aj (!a.done) (aj o (false=gF y/\True) (e)) (e))));let g:Prop:=(aj (aw a.c6 (-1)) (false=gF y/\True) (aj (aw y.z a.c6) (false=gF y/\True) (aj (!a.done) (aj C (false=gF y/\True) (f)) (f))));let h:Prop:=(aj (aw a.c5 (-1)) (false=gF y/\True) (aj (aw y.z a.c5) (false=gF y/\True) (aj (!a.done) (aj w (false=gF y/\True) (g)) (g))));let i:Prop:=(aj (aw a.c4 (-1)) (false=gF y/\True) (aj (aw y.z a.c4) (false=gF y/\True) (aj (!a.done) (aj A (false=gF y/\True) (h)) (h))));let j:Prop:=(aj (aw a.c3 (-1)) (false=gF y/\True) (aj (aw y.z a.c3) (false=gF y/\True) (aj (!a.done) (aj D (false=gF y/\True) (i)) (i))));let k:Prop:=(aj (aw a.c2 (-1)) (false=gF y/\True) (aj (aw y.z a.c2) (false=gF y/\True) (aj (!a.done) (aj B (false=gF y/\True) (j)) (j))));let m:Prop:=(aj (aw a.c1 (-1)) (false=gF y/\True) (aj (aw y.z a.c1) (false=gF y/\True) (aj (!a.done) (aj r (false=gF y/\True) (k)) (k))));(Iv (x<=b/\mf y x))->aj (aw (x:Int) q1) (aG 0 (x:Int)/\aw (x:Int) q1/\aj v (false=gF y/\True) (aj (aw a.c0 (-1)) (false=gF y/\True) (aj (aw y.z a.c0) (false=gF y/\True) (aj (!a.done) (aj q (false=gF y/\True) (m)) (m))))) (true=gF y/\True)))
theorem Qlv (y:Dh) (_:True):L6 y:=by
 grind [L6,fb]
def Qlw:Ok OT:=okZ [] f66 (λ_=>dY ()) trivial Qlv
theorem y6 (y:OU):gF y=(decide ((y.l.length:Int)=y.n)&&mf y y.l.length):=aC _
theorem L7 {y:OU}:∀{n k:Nat},k<=n->mf y n->mf y k
 | 0,k,h,e=>by
  obtain rfl:k=0:=ω;exact e
 | n+1,k,h,e=>by
  rw[mf,ZaW] at e;by_cases hk:k=n+1
  ·grind [mf]
  ·exact L7 ω e.1
theorem QcW {y:OU} {x:Nat} (a:x<y.l.length) (h:OV y x=false):false=gF y:=by
 rw[y6];cases e:mf y y.l.length with
 | false=>simp
 | true=>
  have:=L7 (show x+1<=y.l.length by omega) e;grind [mf]
def L8 (c z:Int) (d:Bool):Bool:=decide (-1<=c)&&decide (c<=z)&&(d||decide (c= -1))
theorem Qaq {c z:Int} {d:Bool} {A q:Prop} (h1:L8 c z d=false->A) (a:L8 c z d->q):aj (aw c (-1)) (A/\True) (aj (aw z c) (A/\True) (aj (!d) (aj (!(aB c (-1))) (A/\True) q) q)):=by
 grind [L8]
theorem Qtk (y:OU) (c:OW.pre y):WI y:=by
 replace c:y.l.length<=1000:=c;unfold WI;rw[pd];refine⟨λk=>?_,λk=>⟨?_,λx g=>?_⟩⟩
 ·grind [y6]
 ·simp only[dw,kU];exact⟨0,rfl,Zaj _,rfl⟩
 ·simp only[kU] at g;rw[pd];refine⟨λh=>?_,λh=>?_⟩
  ·simp only[dA,au] at h;have b:x<y.l.length:=ω;have i:OV y x=false->false=gF y:=QcW b;have f:OV y x->mf y (x+1):=λe=>by grind [mf]
   have a:(⟨false,0,0,0,0,0,0,0,0,0,0,[]⟩:dd)=fu:=rfl;have hu:OV y x=(decide ((y.l.getD x fu).aJ.length=0)&&edC (y.l.getD x fu).done y.z (OO (y.l.getD x fu))):=rfl;have hi:ay .i64 (x:Int) 1=((x+1:Nat):Int):=ba ω ω;simp only[a,dq,Zad,dw,kU,fm,dA,au,hi];generalize y.l.getD x fu=t at*
   have d:edC t.done y.z (OO t)=(L8 t.c0 y.z t.done&&L8 t.c1 y.z t.done&&L8 t.c2 y.z t.done&&L8 t.c3 y.z t.done&&L8 t.c4 y.z t.done&&L8 t.c5 y.z t.done&&L8 t.c6 y.z t.done&&L8 t.c7 y.z t.done&&L8 t.c8 y.z t.done&&L8 t.c9 y.z t.done):=by
    simp[edC,OO,oz,L8,Bool.and_assoc]
   rw[d] at hu;refine⟨ω,h,?_⟩;rw[pd];grind [Qaq]
  ·grind [y6]
def Qlx:Ok OW:=okZ [] f67 Qti trivial Qtk
end
end sx
namespace sx
open Go Go.RowKit cls syn
end sx
set_option maxRecDepth 100000
set_option maxHeartbeats 4000000
namespace sx
noncomputable section
open Go Go.RowKit cls syn
def Qar:bh D:=⟨68,j8,Τ,λ_=>True,λ_=>[.ptr 0 0],IU,λy=>Qvo (ag y.s.r),IU,3,3⟩
structure zl where
 ru:j8
 st:VE
 a8:Dh
 aH:Dh
 aZ:Dh
def OX (p:iC) (s:Dh):C5:=⟨⟨p,s.m,s.L⟩,s.h⟩
def Di (y:zl):Int:=if y.st.ch=true then 0 else cx .i64 y.st.pos y.st.bN
def wsT (p:iC) (s:Dh) (n:Int):Bool:=mc (OX p s,n)
def Pl (y:zl):Bool:=!(aw y.st.bN 0||aw y.st.pos y.st.bN||aw 1099511627776 y.st.pos||!(y.st.ch==aw 200 (cx .i64 y.st.pos y.st.bN)))
def wsM (y:zl):Bool:=wsT y.ru.p y.aH (Di y)&&(if jnR y.ru=true then wsT y.ru.q y.aZ (Di y) else fb y.aZ)
def WJ (y:zl):Bool:=if y.st.jH=false then aB y.st.bj 0&&aB y.st.size 0&&aB (ag y.st.aS) 0&&fb y.a8
   else jnR y.ru&&!y.st.ch&&aG 0 y.st.size&&aG y.st.size 500&&aG 0 y.st.bj&&aB y.st.bj (cx .i64 (cx .i64 y.st.bN y.st.size) 1)&&gF ⟨y.st.aS,ag y.ru.s.r,y.st.size⟩&&wsT y.ru.p y.a8 (ay .i64 (ay .i64 y.st.size 1) (Di y))
def ny (y:zl):Bool:=lk (Pl y&&wsM y&&WJ y)
def WK (y:zl):Prop:=FM (OX y.ru.p y.aH)/\FM (OX y.ru.p y.a8)/\XG y.ru.q/\(jnR y.ru->FM (OX y.ru.q y.aZ))/\y.st.aS.length<=1000
def wsA (y:zl):AV D.E:=Qkw y.st (XN y.a8) (XN y.aH) (XN y.aZ)
def Qtm (r x:AV D.E) (s:St D.E):C zl:=az (Qfx r s) λr=>az (asAgg x) λcs=>match cs with
  | [p,l,g,o,e,z,n,h1,p1,h,b,p2,i,f,p3,j]=>aP (cT p) λ_ p=>aP (cT l) λ_ l=>aP (zh g) λg _=>aP (zh o) λo _=>aP (cT e) λ_ e=>aP (cT z) λ_ z=>az (aL D s 2 n) λn=>az (zS h1 p1 h s) λc=>az (zS b p2 i s) λa=>az (zS f p3 j s) λd=>.ret ⟨r,⟨p,l,g,o,e,z,n⟩,c,a,d⟩
  | _=>.fail
def Qas:bh D:=⟨24,zl,λa s=>match a with
 | [r,x]=>Qtm r x s
 | _=>.fail,WK,λy=>[.ptr 0 0,wsA y],λy=>IU y.ru,λy=>.bool (ny y),λy=>IU y.ru,3,3⟩
def QcY (y:j8):Prop:=aa [ag y.s.r] (sQ y (True))
abbrev RA1 (v:Dh) (p:Prop):Prop:=aa [v.h] (aa [v.m] (aa [v.L] p))
abbrev RA8 (v:zl) (p:Prop):Prop:=aa [v.st.aS] (aa [v.st.aS] (aa [v.st.size] (aa [v.st.size] p)))
def WL (y:zl):Prop:=let B:=ag y.ru.s.r;let q1:=aw y.st.pos y.st.bN;let i:=!(seq y.ru.s.c []);let j:=cx .i64 y.st.pos y.st.bN;let C:=aw 500 y.st.size;let H:=aw 1099511627776 y.st.pos;let D:=ay .i64 y.st.size 1;let E:=aB (ag y.st.aS) 0;let w:=C5.mk (oN.mk y.ru.p y.a8.m y.a8.L) y.a8.h;let x:=C5.mk (oN.mk y.ru.q y.aZ.m y.aZ.L) y.aZ.h;let e:=C5.mk (oN.mk y.ru.p y.aH.m y.aH.L) y.aH.h;let k:=gF (OU.mk y.st.aS B y.st.size);let l:=ay .i64 D 0;let z:=!(oD y.st.ch (aw 200 j));let n:=!(aB y.st.bj (cx .i64 (cx .i64 y.st.bN y.st.size) 1));let o:=ay .i64 D j;let A:=!(mc (e,j));let f:=λp:Prop=>RA1 y.aH (RA1 y.aH (RA3 y.ru.q (RA1 y.aZ p)));let t:=λp:Prop=>RA1 y.aZ (RA1 y.aH (RA1 y.aH (RA1 y.aZ p)));let g:=λp:Prop=>RA1 y.aH (RA1 y.aH p);let u:=λp:Prop=>RAI y.st.aS B y.st.size p;let v:=λp:Prop=>RA1 y.aZ (RA1 y.aH (RA1 y.aH (RA3 y.ru.q (RA1 y.aZ (RA1 y.aZ p)))));let a:Prop:=(false=ny y/\sQ y.ru (True));let I:=aj (aB y.st.bj 0) (aj (aB y.st.size 0) (aj E (Iv True/\RA1 y.a8 (fb y.a8=ny y/\sQ y.ru (True))) (a)) (a)) (a);let b:Prop:=(aj (!y.st.jH) I (aj (!i) (a) (aj y.st.ch (a) (aj (aw y.st.size 0) (a) (aj C (a) (aj (aw y.st.bj 0) (a) (aj n (a) (Iv True/\sQ y.ru (Iv (y.st.aS.length<=1000)/\u (aj k (Iv (Oy y.ru)/\sQ y.ru (Iv (FM w)/\RA3 y.ru.p (RA1 y.a8 (RAG l (RA8 y (RA1 y.a8 (RA1 y.a8 (RAH y.st.size y.st.size (mc (w,l)=ny y/\sQ y.ru (True)))))))))) (RA8 y (a))))))))))));let d:Prop:=(aj (!y.st.jH) I (aj (!i) (a) (aj y.st.ch (a) (aj (aw y.st.size 0) (a) (aj C (a) (aj (aw y.st.bj 0) (a) (aj n (a) (Iv True/\sQ y.ru (Iv (y.st.aS.length<=1000)/\u (aj k (Iv (Oy y.ru)/\sQ y.ru (Iv (FM w)/\RA3 y.ru.p (RA1 y.a8 (RAG o (RA8 y (RA1 y.a8 (RA1 y.a8 (RAH y.st.size y.st.size (mc (w,o)=ny y/\sQ y.ru (True)))))))))) (RA8 y (a))))))))))));let F:Prop:=(RA1 y.aZ (aj (!(fb y.aZ)) (a) (b)));let G:Prop:=(RA1 y.aZ (aj (!(fb y.aZ)) (a) (d)));aj (aw y.st.bN 0) (a) (aj q1 (a) (aj H (a) (aj z (a) (aj y.st.ch (Iv (Υ y.ru)/\sQ y.ru (Iv (Oy y.ru)/\sQ y.ru (Iv (FM e)/\RA3 y.ru.p (RA1 y.aH (RAC (aj (!(mc (e,0))) (g (a)) (aj i (Iv (FM x)/\aa [y.ru.q.af] (aa [y.ru.q.av] (aa [y.aZ.h] (aa [y.aZ.m] (aa [y.aZ.L] (aa ([0]:List Int) (aj (!(mc (x,0))) (f (a)) (aj (!i) (Iv True/\v (aj (!(fb y.aZ)) (a) (b))) (f (b)))))))))) (aj (!i) (Iv True/\t (aj (!(fb y.aZ)) (a) (b))) (g (b)))))))))) (Iv (Υ y.ru)/\sQ y.ru (Iv (Oy y.ru)/\sQ y.ru (Iv (FM e)/\RA3 y.ru.p (RA1 y.aH (RAG j (aj A (g (a)) (aj i (Iv (FM x)/\aa [y.ru.q.af] (aa [y.ru.q.av] (aa [y.aZ.h] (aa [y.aZ.m] (aa [y.aZ.L] (aa [j] (aj (!(mc (x,j))) (f (a)) (aj (!i) (Iv True/\v (aj (!(fb y.aZ)) (a) (d))) (f (d)))))))))) (aj (!i) (Iv True/\t (aj (!(fb y.aZ)) (a) (d))) (g (d))))))))))))))
def Qly:Ok Qar:=okZ (V:=QcY) [] f68 (λ_=>dY ()) trivial λ(y:j8) _=>by
 unfold QcY;simp only[dw,j9]
theorem WM (a b:Int):aG a b=!(aw b a):=by
 grind
theorem Qto (y:zl) (f:WK y):WL y:=by
 have⟨h1,a,b,d,g⟩:=f;have i:Oy y.ru:=h1.1.pg;have e:ny y=_:=aC _;unfold WL;simp only[gz,j9,kU];unfold Pl wsM WJ wsT Di OX at e;unfold OX at h1 a d;have h:jnR y.ru=!(seq y.ru.s.c []):=rfl;have j:Υ y.ru:=b
 with_reducible repeat' first | assumption | apply And.intro | intro _
 all_goals simp_all [oD,WM]
def Qlz (a:Ok dB):Ok Qas:=okZ [Χ,ϊ,Qar,WE,OT,OW] f24 (λ_=>dY ()) ⟨Qks,Qkt,Qly,Qlu a,Qlw,Qlx⟩ Qto
def wtA (y:zO):Int->Bool:=LC y.p.af (lJ y.p.af (Ϗ y)) y.p.af.length λk=>if k=Ϗ y then true else false
def XO (y:zO) (s:List Bool) (k:Int):Bool:=wtA y k&&!(s.getD k.toNat false)
def Pn (y:oN) (k:Nat):zO:=⟨y.p,k,y.L.getD k fu,y.m⟩
def dwI (y:oN) (k:Nat) (x:List Bool×Nat):Prop:=k<y.L.length/\gh y k/\x.2<=(y.L.getD k fu).aJ.length/\x.1.length=y.p.af.length/\uS y k=XL y.m ((y.L.getD k fu).aJ.drop x.2) (XO (Pn y k) x.1)
def mcO (y:oN):Nat×AO D.E:=(1,.cells [.int .i64 y.m,.list 2 y.L] 31 false)
def WN:bh D:={ OP with f:=160 }
def Qtp (y:WN.Y):cH D:=⟨[],[10],[(58,⟨Nat,[],λk=>[(2,.ptr 0 0),(3,.ptr 1 0),(5,Qvo k)],[],λ_=>[SU (oN.p y),mcO y],2,λk=>k<=(oN.L y).length/\gh y k,λk=>(oN.L y).length-k⟩)],[],1,
 [(59710,⟨Nat,λk=>⟨List Bool×Nat,[5,7],λx=>[(2,.ptr 0 0),(3,.ptr 1 0),(6,.ptr 2 0),(8,.own 3 1 (ag x.1)),(9,Qvo x.2)],[],λx=>[SU (oN.p y),mcO y,(2,.cells (D.a_ 2 ((oN.L y).getD k fu)) 106 false),(3,.arr 17 x.1 4 false)],4,dwI y k,λx=>((oN.L y).getD k fu).aJ.length-x.2⟩,none⟩)]⟩
def Qaw:bh D:={ WD with f:=98 }
def QlA:bh D:={ WE with f:=55 }
def QlB:bh D:={ OT with f:=56 }
def XP (y:j8):List (Nat×AO D.E):=[ruO 0 y.s ⟨y.p.af,y.p.av,y.q.af,y.q.av,0,0⟩]
def QfM (v:AV D.E) (s:St D.E):C j8:=match v with
 | .ptr b _=>az (cR (s.h.get b)) λo=>match o with
  | .cells cs _ _=>match cs with
   | [r,c,p,q,a,b,_]=>az (aL D s 3 r) λr=>az (fY c) λc=>az (aL D s 8 p) λp=>az (aL D s 5 q) λq=>az (aL D s 8 a) λa=>az (aL D s 5 b) λb=>.ret ⟨⟨r,c⟩,⟨p,q⟩,⟨a,b⟩,[]⟩
   | _=>.fail
  | _=>.fail
 | _=>.fail
structure DnY where
 r:j8
 l:List dd
 z:Int
def oA (y:DnY):OU:=⟨y.l,ag y.r.p.av,y.z⟩
def WO:bh D:=⟨57,DnY,λa s=>match a with
 | [r,l,z]=>az (QfM r s) λr=>az (aL D s 2 l) λl=>aP (cT z) λ_ z=>.ret ⟨r,(l:List dd),z⟩
 | _=>.fail,λy=>y.l.length<=1000,λy=>[.ptr 0 0,.list 2 y.l,Qvo y.z],λy=>XP y.r,λy=>.bool (gF (oA y)),λy=>XP y.r,1,1⟩
def Qts (y:WO.Y):cH D:=⟨[],[],[(58,⟨Nat,[0,1,2],λk=>[(7,Qvo k)],[],λ_=>XP (DnY.r y),1,λk=>k<=(DnY.l y).length/\mf (oA y) k,λk=>(DnY.l y).length-k⟩)],[],11,[]⟩
def Qtu (r x:AV D.E) (s:St D.E):C zl:=az (QfM r s) λr=>az (asAgg x) λcs=>match cs with
  | [p,l,g,o,e,z,n,h1,p1,h,b,p2,i,f,p3,j]=>aP (cT p) λ_ p=>aP (cT l) λ_ l=>aP (zh g) λg _=>aP (zh o) λo _=>aP (cT e) λ_ e=>aP (cT z) λ_ z=>az (aL D s 2 n) λn=>az (zS h1 p1 h s) λc=>az (zS b p2 i s) λa=>az (zS f p3 j s) λd=>.ret ⟨r,⟨p,l,g,o,e,z,n⟩,c,a,d⟩
  | _=>.fail
def y7 (y:zl):Prop:=WK y/\y.ru.p.av.length=y.ru.s.r.length
def WQ:bh D:=⟨20,zl,λa s=>match a with
 | [r,x]=>Qtu r x s
 | _=>.fail,y7,λy=>[.ptr 0 0,wsA y],λy=>XP y.ru,λy=>.bool (ny y),λy=>XP y.ru,1,1⟩
def wsO (y:zl):Nat×AO D.E:=(1,.cells ([.int .i64 y.st.pos,.int .i64 y.st.bN,.bool y.st.ch,.bool y.st.jH,.int .i64 y.st.bj,.int .i64 y.st.size,.list 2 y.st.aS]++XN y.a8++XN y.aH++XN y.aZ) 35 false)
def wsE (y:zl):Prop:= -9223372036854775808<=y.st.bj/\y.st.bj<=9223372036854775807
def QlC (y:zl) (p:Prop):iH D:=⟨Unit,[0],λ_=>[(3,.ptr 1 0),(5,.int .i64 (Di y))],[],λ_=>XP y.ru++[wsO y],2,λ_=>p,λ_=>0⟩
def Qtv (y:WQ.Y):cH D:=⟨[(0,.fact 1)],[],[],[(15,QlC y (Pl y/\wsE y)),(31,QlC y (Pl y/\wsM y/\wsE y))],1,[]⟩
def Jv (s:Int):Int:=if aB (lF .u32 s 1) 1=true then F_ .u32 (oC .u32 s 1) 2197175160 else oC .u32 s 1
def WR:Nat->Int->Int
 | 0,s=>s
 | n+1,s=>WR n (Jv s)
def tY (s:Int) (l:By):Nat->Int
 | 0=>s
 | k+1=>WR 8 (F_ .u32 (tY s l k) (jP .u32 ((l.getD k 0).toNat:Int)))
def vH (y:Int×By):Int:=zm .u32 (tY (zm .u32 y.1) y.2 y.2.length)
def Qtx (a:List (AV D.E)) (s:St D.E):C (Int×By):=match a with
 | [c,l]=>aP (cT c) λ_ c=>az (aL D s 0 l) λl=>.ret (c,(l:By))
 | _=>.fail
def Jw:bh D:=bO 85 (Int×By) Qtx (λy=>y.2.length<=1000000000000) (λy=>[.int .u32 y.1,.list 0 y.2]) λy=>.int .u32 (lk (vH y))
def vI (y:Int×By) (k:Nat) (x:Nat×Int):Prop:=k<y.2.length/\x.1<=8/\0<=x.2/\WR (8-x.1) x.2=tY (zm .u32 y.1) y.2 (k+1)
def Qty (y:Jw.Y):cH D:=⟨[],[],[(58,⟨Nat,[11,12],λk=>[(5,.int .u32 (tY (zm .u32 (Prod.fst (α:=Int) y)) (Prod.snd (α:=Int) y) k)),(13,Qvo k)],[],λ_=>[],0,λk=>k<=(Prod.snd (α:=Int) (β:=By) y).length,λk=>(Prod.snd (α:=Int) (β:=By) y).length-k⟩)],[],1,
 [(29902,⟨Nat,λk=>⟨Nat×Int,[11,12,13],λx=>[(5,.int .u32 x.2),(21,Qvo x.1)],[],λ_=>[],0,vI y k,λx=>8-x.1⟩,none⟩)]⟩
def WS:bh D:={ Jw with f:=89 }
def QtA (y:WS.Y):cH D:=⟨[],[],[(58,⟨Nat,[1],λk=>[(5,.int .u32 (tY (zm .u32 (Prod.fst (α:=Int) y)) (Prod.snd (α:=Int) y) k)),(6,Qvo k)],[],λ_=>[],0,λk=>k<=(Prod.snd (α:=Int) (β:=By) y).length,λk=>(Prod.snd (α:=Int) (β:=By) y).length-k⟩)],[],1,
 [(7462,⟨Nat,λk=>⟨Nat×Int,[1,6],λx=>[(5,.int .u32 x.2),(7,Qvo x.1)],[],λ_=>[],0,vI y k,λx=>8-x.1⟩,none⟩)]⟩
def Jx (b:By) (p:iX):By:=gf (gf b p.name) p.text
def iB (b:By) (l:List iX) (k:Nat):By:=(l.take k).foldl Jx (a7 b l.length)
def nr (b:By) (s:cj):By:=gf (iB b s.r s.r.length) s.c
def eO:List iX->Nat
 | []=>0
 | p::l=>p.name.length+p.text.length+20+eO l
def QtC (a:List (AV D.E)) (s:St D.E):C (By×iX):=match a with
 | [b,p]=>az (aL D s 0 b) λb=>az (asAgg p) λcs=>match cs with
  | [n,t]=>az (fY n) λn=>az (fY t) λt=>.ret ((b:By),⟨n,t⟩)
  | _=>.fail
 | _=>.fail
def tk0:List (Nat×AO D.E):=[(0,.tok 0 5)]
def Qax:bh D:=⟨135,By×iX,QtC,λy=>y.1.length+eO [y.2]<=536870912,λy=>[.list 0 y.1,.agg [.str y.2.name,.str y.2.text]],λ_=>[],λy=>.grow 0 (Jx y.1 y.2) 0,λ_=>tk0,0,1⟩
def WT:bh D:=⟨134,By×List iX,λa s=>match a with
 | [b,l,_]=>az (aL D s 0 b) λb=>az (aL D s 3 l) λl=>.ret ((b:By),(l:List iX))
 | _=>.fail,λy=>y.1.length+10+eO y.2<=536870912,λy=>[.list 0 y.1,.list 3 y.2,.func (.func 135) [] []],λ_=>[],λy=>.grow 0 (iB y.1 y.2 y.2.length) 0,λ_=>tk0,0,1⟩
def QtE (y:WT.Y):cH D:=⟨[],[],[(58,⟨Nat,[2,14,15],λk=>[(7,.grow 0 (iB (Prod.fst (α:=By) y) (Prod.snd (β:=List iX) y) k) 0),(16,Qvo k)],[],λ_=>tk0,1,λk=>k<=(Prod.snd (α:=By) (β:=List iX) y).length,λk=>(Prod.snd (α:=By) (β:=List iX) y).length-k⟩)],[],1,[]⟩
def psW (y:By×cj):Prop:=y.1.length+30+eO y.2.r+y.2.c.length<=536870912
def QlD (a:List (AV D.E)) (s:St D.E):C (By×cj):=match a with
 | [b,x]=>az (aL D s 0 b) λb=>az (Lx [x] s) λx=>.ret ((b:By),x)
 | _=>.fail
def WU:bh D:=⟨83,By×cj,QlD,psW,λy=>[.list 0 y.1,CM y.2],λ_=>[],λy=>.grow 0 (nr y.1 y.2) 0,λ_=>tk0,0,1⟩
def WV:bh D:={ WU with f:=88 }
def QtI (y:WV.Y):cH D:=⟨[],[],[(58,⟨Nat,[],λk=>[(3,.ptr 0 0),(0,.grow 0 (iB (Prod.fst (α:=By) y) (Prod.snd (α:=By) (β:=cj) y).r k) 1),(5,Qvo k)],[],λ_=>[dsO (Prod.snd (α:=By) (β:=cj) y),(1,.tok 0 5)],2,λk=>k<=(Prod.snd (α:=By) (β:=cj) y).r.length,λk=>(Prod.snd (α:=By) (β:=cj) y).r.length-k⟩)],[],1,[]⟩
def L9 (y:Int×(List UInt8)):Prop:=let c:=y.2.length;let q1:=zm .u32 y.1;let d:=ag y.2;(∃z:Nat,aa [y.2] (aa [d] (q1=tY q1 y.2 z/\0=(z:Int)/\(Iv (z<=c)))))/\(∀x:Nat,let e:=λp:Prop=>aa [y.2] (aa [d,(x:Int)] p);(Iv (x<=c))->aj (aw (x:Int) d) (aG 0 (x:Int)/\aw (x:Int) d/\∃z:Nat,(∃a:Nat×Int,e (F_ .u32 (tY q1 y.2 x) (jP .u32 ((gt 0 y.2 (x:Int).toNat).toNat:Int))=a.2/\0=(a.1:Int)/\(Iv (vI y z a))))/\(∀b:Nat×Int,let f:=aw (b.1:Int) 8;let g:=aB (lF .u32 b.2 1) 1;(Iv (vI y z b))->aj f (Tt 1 (aG 0 b.2/\aj g (∃a:Nat×Int,e (F_ .u32 (oC .u32 b.2 1) 2197175160=a.2/\ay .i64 (b.1:Int) 1=(a.1:Int)/\(Iv (vI y z a/\(8-a.1)<(8-b.1))))) (∃a:Nat×Int,e (oC .u32 b.2 1=a.2/\ay .i64 (b.1:Int) 1=(a.1:Int)/\(Iv (vI y z a/\(8-a.1)<(8-b.1))))))) (∃a:Nat,aa [y.2] (aa [d] (b.2=tY q1 y.2 a/\ay .i64 (x:Int) 1=(a:Int)/\(Iv (a<=c/\(c-a)<(c-x)))))))) (zm .u32 (tY q1 y.2 x)=lk (vH y)/\True))
def WW (y:Int×(List UInt8)):Prop:=let c:=y.2.length;let q1:=zm .u32 y.1;(∃z:Nat,aa [y.2] (q1=tY q1 y.2 z/\0=(z:Int)/\(Iv (z<=c))))/\(∀x:Nat,let e:=aw (x:Int) (ag y.2);let d:=λp:Prop=>aa [y.2] (aa [(x:Int)] p);(Iv (x<=c))->aj e (aG 0 (x:Int)/\e/\∃z:Nat,(∃a:Nat×Int,d (F_ .u32 (tY q1 y.2 x) (jP .u32 ((gt 0 y.2 (x:Int).toNat).toNat:Int))=a.2/\0=(a.1:Int)/\(Iv (vI y z a))))/\(∀b:Nat×Int,let f:=aw (b.1:Int) 8;let g:=aB (lF .u32 b.2 1) 1;(Iv (vI y z b))->aj f (aj g (Tt 1 (aG 0 b.2/\∃a:Nat×Int,d (F_ .u32 (oC .u32 b.2 1) 2197175160=a.2/\ay .i64 (b.1:Int) 1=(a.1:Int)/\(Iv (vI y z a/\(8-a.1)<(8-b.1)))))) (Tt 1 (aG 0 b.2/\∃a:Nat×Int,d (oC .u32 b.2 1=a.2/\ay .i64 (b.1:Int) 1=(a.1:Int)/\(Iv (vI y z a/\(8-a.1)<(8-b.1))))))) (∃a:Nat,aa [y.2] (b.2=tY q1 y.2 a/\ay .i64 (x:Int) 1=(a:Int)/\(Iv (a<=c/\(c-a)<(c-x))))))) (zm .u32 (tY q1 y.2 x)=lk (vH y)/\True))
def Qc0 (y:(List UInt8)×iX):Prop:=let a:=gf y.1 y.2.name;Iv (y.1.length<=536870912/\y.2.name.length<=536870912)/\aa [y.1] (aa [y.2.name] (Iv (a.length<=536870912/\y.2.text.length<=536870912)/\aa [a] (aa [y.2.text,y.2.name,y.2.text,y.2.text] (gf a y.2.text=Jx y.1 y.2/\True))))
def Qc1 (y:(List UInt8)×(List iX)):Prop:=let a:=ag y.2;let q1:=y.2.length;Iv (y.1.length<=1073741824)/\aa [y.1] (aa [a] ((∃z:Nat,aa [y.2] (aa [a] (a7 y.1 a=iB y.1 y.2 z/\0=(z:Int)/\(Iv (z<=q1)))))/\(∀x:Nat,let b:=iB y.1 y.2 x;let c:=gt (iX.mk [] []) y.2 (x:Int).toNat;(Iv (x<=q1))->aj (aw (x:Int) a) (aG 0 (x:Int)/\aw (x:Int) a/\Iv ((b.length+eO [c])<=536870912)/\aa [b] (aa [c.name,c.text] (∃z:Nat,aa [y.2] (aa [a] (Jx b c=iB y.1 y.2 z/\ay .i64 (x:Int) 1=(z:Int)/\(Iv (z<=q1/\(q1-z)<(q1-x)))))))) (b=iB y.1 y.2 q1/\True))))
def Qc2 (y:(List UInt8)×cj):Prop:=let a:=iB y.1 y.2.r y.2.r.length;Iv (((y.1.length+10)+eO y.2.r)<=536870912)/\aa [y.1] (aa [y.2.r] (Iv (a.length<=536870912/\y.2.c.length<=536870912)/\aa [a,y.2.c] (gf a y.2.c=nr y.1 y.2/\True)))
def Qc3 (y:(List UInt8)×cj):Prop:=let d:=y.2.r.length;let q1:=ag y.2.r;Iv (y.1.length<=1073741824)/\aa [y.1] (aa [q1] ((∃z:Nat,a7 y.1 q1=iB y.1 y.2.r z/\0=(z:Int)/\aa [y.2.r] (aa [y.2.c] ((Iv (z<=d)))))/\(∀x:Nat,let b:=iB y.1 y.2.r x;let a:=gt (iX.mk [] []) y.2.r (x:Int).toNat;let e:=gf b a.name;(Iv (x<=d))->aj (aw (x:Int) q1) (aG 0 (x:Int)/\aw (x:Int) q1/\Iv (b.length<=536870912/\a.name.length<=536870912)/\aa [b] (aa [a.name] (aG 0 (x:Int)/\aw (x:Int) q1/\Iv (e.length<=536870912/\a.text.length<=536870912)/\aa [e] (aa [a.text] (aa [y.2.r] (aa [a.name] (aa [y.2.r,y.2.r] (aa [a.text,a.text] (∃z:Nat,gf e a.text=iB y.1 y.2.r z/\ay .i64 (x:Int) 1=(z:Int)/\aa [y.2.r] (aa [y.2.c] ((Iv (z<=d/\(d-z)<(d-x)))))))))))))) (Iv (b.length<=536870912/\y.2.c.length<=536870912)/\aa [b,y.2.c] (gf b y.2.c=nr y.1 y.2/\True)))))
end
end sx
end Go.Proofs.YtiiiphndmbabcaaGreat
