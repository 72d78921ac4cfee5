/- StreamRises: a part of the proof. -/
import Derived.Test.YtadfknojfbmjgaaGreatC11
import Derived.Test.YtadfknojfbmjgaaGreatC29
set_option linter.all false
namespace Go.Proofs.YtadfknojfbmjgaaGreat
namespace sx
open Go Go.RowKit Go.ChangeShapes Go.WideShapes Go.ChangeAt
set_option maxRecDepth 100000
variable {Z:Type}
def ow (v:Value):Option (AV D.E):=match v with
 | .int k n=>bif mv k n then some (.int k n) else none
 | .bool b=>some (.bool b)
 | .string s=>if s.data.toList.length<=9223372036854775807 then some (.str s.data.toList) else none
 | _=>none
noncomputable def lY (W:World):Pm D:=⟨λ_=>none,λb o=>(W.cell? ⟨b,o,none⟩).bind ow⟩
def We {M:Pm D} {v:Value} {u:AV D.E} (h:ow v=some u):mA u/\VR M u v:=by
 cases v<;>simp only[ow] at h<;>(try (cases h;done))
 case bool b=>cases h;exact⟨rfl,.bool b⟩
 case int k n=>
  cases a:mv k n with
  | false=>rw[a] at h;cases h
  | true=>rw[a] at h;cases h;exact⟨rfl,.int a⟩
 case string s=>
  split at h
  ·rename_i hs;cases h;exact⟨rfl,.str hs⟩
  ·cases h
theorem Ol (W:World) (f:D.ng<=W.heap.size) (d:D.gw W):ey (lY W) (λ_=>none) W:=by
 refine⟨λb o h=>(nomatch h),λb i o j a g h=>(nomatch h),λb o v h=>?_,λb o a h=>(nomatch h),λb c xs e a h=>(nomatch h),⟨⟨f,d⟩,λb o a h=>(nomatch h)⟩⟩;have h:(W.cell? ⟨b,o,none⟩).bind ow=some v:=h;cases e:W.cell? ⟨b,o,none⟩ with
 | none=>rw[e] at h;cases h
 | some u=>
  rw[e] at h;have h:ow u=some v:=h;have:=We (M:=lY W) h;exact⟨this.1,u,rfl,this.2⟩
theorem Wf {f:Z->Nat}:∀(xs:List Z) (g:Nat->Nat),(∀i (hi:i<xs.length),f xs[i]<=g i)->(xs.map f).sum<=((List.range xs.length).map g).sum
 | [],g,_=>by simp
 | x::xs,g,h=>by
  have h0:=h 0 (by simp);have h1:=Wf xs (λi=>g (i+1)) λi hi=>h (i+1) (by simp;omega)
  rw[Zae,List.range_succ_eq_map,Zbl,Zco,Zbl,Zco,Zdq];show f x+_<=g 0+((List.range xs.length).map (λi=>g (i+1))).sum
  have h0:f x<=g 0:=h0;omega
theorem QaO (xs:List Z):(xs.map λ_=>1).sum=xs.length:=by induction xs with
 | nil=>rfl
 | cons x xs a=>simp[a];omega
theorem Wg (d:DataW Z):1<=Rows.uptoBulk d:=by
 cases d with
 | lit l=>cases l<;>simp[Rows.uptoBulk]
 | nil=>simp[Rows.uptoBulk]
 | ptr d=>simp[Rows.uptoBulk]
 | slice elems spare=>simp[Rows.uptoBulk]
 | agg parts=>simp[Rows.uptoBulk]
 | iface t d=>simp[Rows.uptoBulk]
 | map entries=>simp[Rows.uptoBulk]
 | held h=>simp[Rows.uptoBulk]
section
variable {H:Type} {aX:TypeId×Value->H} {P:Program} {W:World} {held:Bool} {M:Pm D}
variable {v:Value} {w:Nat} {Z:List Value} {k:IntKind} {s:ByteArray}
def kq (M:Pm D) (W:World) (l:List (AV D.E)) (cs:List Value):Prop:=l.length=cs.length/\∀(j:Nat) (u:AV D.E) (v:Value),l[j]?=some u->cs[j]?=some v->∀b o,W.cell? ⟨b,o,none⟩=some v->M.sg b o=some u
theorem kq.nil:kq M W [] []:=⟨rfl,λj u v h=>by simp at h⟩
def kq.cons {u:AV D.E} {l:List (AV D.E)} (h:∀b o,W.cell? ⟨b,o,none⟩=some v->M.sg b o=some u) (k:kq M W l Z):kq M W (u::l) (v::Z):=
 ⟨by simp[k.1],λj c d e a=>by
  cases j with
  | zero=>simp at e a;subst e;subst a;exact h
  | succ j=>exact k.2 j c d (by simpa using e) (by simpa using a)⟩
def Wh {c:Nat} {e:TypeId} {w:Nat} {Q:D.E c->Nat->Prop} (L:P.cellsOf e=D.size c) (C:0<D.size c)
  (l:∀n cs x,hJ aX P W held n e cs=some x->∃y:D.E c,kq M W (D.aX c y) cs/\Q y (Rows.uptoBulk x.1)) (h:MN aX P W held (.sl e) v w):
  ∃(xs:List (D.E c)) (g:Nat->Nat),VR M (.list c xs) v/\((List.range xs.length).map g).sum<=w/\∀i (hi:i<xs.length),Q xs[i] (g i):=by
 rcases h with rfl | ⟨a,len,cap,n,rfl,hl,N,t,k,R⟩
 ·exact⟨[],λ_=>0,.fh,by simp,λi hi=>by simp at hi⟩
 ·by_cases h0:len=0
  ·subst h0;exact⟨[],λ_=>0,.fh,by simp,λi hi=>by simp at hi⟩
  have O:∀i,i<len->∃y:D.E c,∃cs,W.cells? 0 (a.add (i*D.size c)) (D.size c)=some cs/\kq M W (D.aX c y) cs/\Q y (Rows.uptoBulk (t i)):=λi hi=>by
   obtain⟨cs,x,h1,K⟩:=R i hi;rw[L] at h1;obtain⟨y,S,r⟩:=l n cs _ K;exact⟨y,cs,h1,S,r⟩
  haveI:Inhabited (D.E c):=⟨D.W8 c⟩
  obtain⟨f,m⟩:=Go.Deep.choose_lt O;obtain⟨b,o,sp⟩:=a;obtain⟨G,c1,c2,_⟩:=m 0 ω;have I:((⟨b,o,sp⟩:Addr).add (0*D.size c)).add 0=⟨b,o,sp⟩:=by simp[Addr.add]
  have d:=(World.cells?_some c1).2.2 0 C;rw[I] at d;have q:(D.aX c (f 0)).length=D.size c:=jU.len c _;rw[Zaf (by rw[<-c2.1,q];exact C)] at d;obtain rfl:sp=none:=by
   cases sp with
   | none=>rfl
   | some s=>
    simp only[World.cell?] at d;split at d<;>simp at d
  have hlen:((List.range len).map f).length=len:=by simp
  refine⟨(List.range len).map f,λi=>Rows.uptoBulk (t i),?_,by rw[hlen];exact k,λi hi=>?_⟩
  ·have F:VR M (.list c ((List.range len).map f)) (.slice (some ⟨b,o,none⟩) ((List.range len).map f).length cap):=by
    refine .list (λi hi j u hu=>?_) (by rw[hlen];unfold maxLen at N;omega) (by rw[hlen];exact hl);have p:i<len:=by simpa using hi
    simp only[ZcD,Zdf] at hu;obtain⟨cs,H,z,_⟩:=m i p;have B:j<D.size c:=by rw[<-jU.len c (f i)];exact(Zam.1 hu).1
    have A:=(World.cells?_some H).2.2 j B;have J:((⟨b,o,none⟩:Addr).add (i*D.size c)).add j=⟨b,o+i*D.size c+j,none⟩:=by
     rw[Addr.add_lit,Addr.add_lit]
    rw[J,Zaf (by rw[<-z.1,jU.len];exact B)] at A;exact z.2 j u _ hu (Zaf _) _ _ A
   rw[hlen] at F;exact F
  ·simp only[ZcD,Zdf];obtain⟨_,_,_,r⟩:=m i (by simpa using hi);exact r
def Wi {n:Int} (h:(Lit.int k n).wf):mv k n:=by
 rw[cB];cases k<;>simp[Lit.wf,IntKind.min,IntKind.max,IntKind.signed,IntKind.bits] at h<;>simp[CU,sY]<;>omega
def QaP {n:Int} (h:(Lit.int k n).wf):∀b o,W.cell? ⟨b,o,none⟩=some (.int k n)->(lY W).sg b o=some (.int k n):=λb o a=>by
 show(W.cell? ⟨b,o,none⟩).bind ow=_
 rw[a];show ow (.int k n)=_
 simp only[ow,Wi h,cond_true]
def A9 (h:s.size<=maxLen):s.data.toList.length<=9223372036854775807:=by
 have:s.data.toList.length=s.size:=by rw[Zba];rfl
 unfold maxLen at h;omega
def CN (h:s.size<=maxLen):∀b o,W.cell? ⟨b,o,none⟩=some (.string s)->(lY W).sg b o=some (.str s.data.toList):=λb o a=>by
 show(W.cell? ⟨b,o,none⟩).bind ow=_
 rw[a];show ow (.string s)=_
 simp only[ow];rw[Zac (A9 h)]
def Wj (c:Bool):∀b o,W.cell? ⟨b,o,none⟩=some (.bool c)->(lY W).sg b o=some (.bool c):=λb o a=>by
 show(W.cell? ⟨b,o,none⟩).bind ow=_
 rw[a];rfl
def Wl (n:Nat) (cs:List Value) (x:DataW H×List MemPlace) (h:hJ aX Tryz.prog W held n 53 cs=some x):∃y:lC,kq (lY W) W (D.aX 3 (y:lC)) cs/\True:=by
 have g0:=qQ 8 53 [.str,.str] cs n x (by kernel_rfl) h;obtain⟨v,r,k,e,rfl,⟨a,rfl,c,i⟩,g1,g⟩:=g0.bX;obtain⟨v,r,l,f,rfl,⟨b,rfl,d,j⟩,g2,e2⟩:=g1.bX;obtain rfl:=g2.oq;exact⟨⟨a.data.toList,b.data.toList⟩,.cons (CN c) (.cons (CN d) .nil),trivial⟩
def Om (n:Nat) (cs:List Value) (x:DataW H×List MemPlace) (h:hJ aX Tryz.prog W held n 51 cs=some x):∃y:mP,kq (lY W) W (D.aX 19 (y:mP)) cs/\(y.piece.length<=Rows.uptoBulk x.1/\1<=Rows.uptoBulk x.1):=by
 have g0:=qQ 8 51 [.str,.int .i64,.bool] cs n x (by kernel_rfl) h;obtain⟨v,r,m,f,rfl,⟨a,rfl,d,l⟩,g0,j⟩:=g0.bX;obtain⟨v,r,o,g,rfl,⟨b,rfl,e⟩,g0,e2⟩:=g0.bX;obtain⟨v,r,p,i,rfl,⟨c,rfl⟩,g0,k⟩:=g0.bX;obtain rfl:=g0.oq;exact⟨⟨a.data.toList,b,c⟩,.cons (CN d) (.cons (QaP e) (.cons (Wj c) .nil)),by show a.data.toList.length<=_;omega,Wg _⟩
theorem Wm:∀(l:List Nat) (i:Nat) (hi:i<l.length),l[i]<=l.sum
 | x::l,0,_=>by simp
 | x::l,i+1,hi=>by
  have:=Wm l i (by simpa using hi);simp only[List.getElem_cons_succ,Zco];omega
def QaQ (h:MN aX Tryz.prog W held (.sl 53) v w):∃xs:List lC,VR (lY W) (.list 3 (xs:List (D.E 3))) v:=by
 obtain⟨xs,g,h1,_,_⟩:=Wh (c:=3) (Q:=λ(_:lC) _=>True) (by kernel_rfl) (by exact ZcY (by kernel_rfl)) (λn cs x h=>Wl n cs x h) h;exact⟨xs,h1⟩
def Wn (h:MN aX Tryz.prog W held (.sl 51) v w):∃xs:List mP,VR (lY W) (.list 19 (xs:List (D.E 19))) v/\xs.length<=w/\∀r∈xs,r.piece.length<=w:=by
 obtain⟨xs,g,h1,a,b⟩:=Wh (c:=19) (Q:=λ(p:mP) n=>p.piece.length<=n/\1<=n) (by kernel_rfl) (by exact ZcY (by kernel_rfl)) (λn cs x h=>Om n cs x h) h;have k1:=Wf (f:=λ_=>1) xs g λi hi=>(b i hi).2
 rw[QaO] at k1;refine⟨xs,h1,Zav k1 a,λt ht=>?_⟩;obtain⟨i,hi,rfl⟩:=Za3 ht;have:=Wm ((List.range xs.length).map g) i (by rw[Za2,List.length_range];exact hi);simp only[ZcD,Zdf] at this;exact Zav (b i hi).1 (Zav this a)
def Wo {x:DataW H×List MemPlace} (h:hJ aX Tryz.prog W held w 24 Z=some x):∃y:b7,LR (lY W) [.list 3 y.r,.str y.c] Z:=by
 have g0:=qQ 8 24 [.sl 53,.str] Z w x (by kernel_rfl) h;obtain⟨v,r,w0,e,rfl,s0,g0,g⟩:=g0.bX;obtain⟨a0,d⟩:=QaQ s0;obtain⟨v,r,k,f,rfl,⟨a,rfl,b,j⟩,g0,i⟩:=g0.bX;obtain rfl:=g0.oq;exact⟨⟨a0,a.data.toList⟩,.cons d (.cons (.str (A9 b)) .nil)⟩
end
end sx
set_option maxRecDepth 100000
set_option maxHeartbeats 4000000
namespace sx
noncomputable section
open Go Go.RowKit cls syn
def Wp (y:sP):Prop:=let g:=C0 y;let a:=lX y.s;let A:=ab (vU y);let q:=ab g;let B:=ab (ew y);let t:=bM a.p;let G:=bW g A;let f:=(mr y).2.1;let H:=jr (VZ.mk y.k 0 B);let I:=bW (ew y) H;let m:=aA.mk a 0 0 0 0 false [] t gM gM;let h:=(cx aJ.n m (ew y)).2;let u:=aA.mk a f.pos f.line 0 0 f.aE [] f.alt gM gM;let C:=az (ab (cx aJ.n u []).2.2) 0;let w:=λp:Prop=>aa [y.l] (aa ([700]:List Int) p);let i:=λp:Prop=>aa ([0,0]:List Int) p;ag (qI y.s) (Iv (CK (y.s,true))/\aa [y.s.r] (aa [y.s.c] (Iv (zn (rr.mk y.l 700))/\w ((ag (rp a) (Iv (hU (a,true))/\cM a (∃z:Unit,aa [y.k] (rv (rr.mk y.l 700)=ew y/\c_ a (False)))) (Iv (hU (a,false))/\cM a (∃z:Unit,aa [y.k] (rv (rr.mk y.l 700)=ew y/\c_ a (i (false=false/\aT t (cM a ((Iv (qI y.s))))))))))/\(∀x:Unit,(Iv (qI y.s))->(ag (rp a) (Iv (hU (a,true))/\cM a (∃z:Unit,aa [y.k] (aa [ew y] (c_ a (False))))) (Iv (hU (a,false))/\cM a (∃z:Unit,aa [y.k] (aa [ew y] (c_ a (i (false=false/\aT t (c_ a (i (false=false/\aT t (cM a ((Iv (qI y.s))))))))))))))/\(∀x1:Unit,(Iv (qI y.s))->Iv (FH (VZ.mk y.k 0 B))/\aa ([y.k,0,B]:List Int) ((Iv (vb aJ.n (m,ew y))/\aa [ew y] (c_ a (i (false=false/\aT t (cM a (aC 0 H/\aC H B/\Iv (vb aJ.n (m,I))/\aa [I] (c_ a (i (false=false/\aT t (cM a (∃z:Unit,h.2=g/\(cx aJ.n m I).2.2=vU y/\c_ a (h.1.pos=f.pos/\h.1.line=f.line/\h.1.aE=f.aE/\dE h.1.alt f.alt (cM a ((Iv (qI y.s))))))))))))))))/\(∀J:Unit,(Iv (qI y.s))->ag (ax q A) (False) (aC 0 A/\aC A q/\Iv (G.length<=1000000000000)/\aa [G] (vU y=G/\(∃z:Nat,aa [g] (1=(z:Int)/\c_ a (l9 f (aT f.alt (cM a ((Iv (1<=z/\z<=(g.length+1)))))))))/\(∀j:Nat,let o:=ax (j:Int) q;let e:=da .i64 (j:Int) 1;let b:=gt (Found.mk 0 0 0 0 0 0 0 0 0 0 0 0 0) g (j:Int).toNat;let d:=gt (Found.mk 0 0 0 0 0 0 0 0 0 0 0 0 0) g e.toNat;let D:=ax b.pos d.pos;let E:=az b.pos d.pos;let F:=aC b.kd d.kd;let v:Prop:=(∃z:Nat,aa [g] (an .i64 (j:Int) 1=(z:Int)/\c_ a (l9 f (aT f.alt (cM a ((Iv ((1<=z/\z<=(g.length+1))/\((g.length+1) -z)<((g.length+1) -j)))))))));(Iv (1<=j/\j<=(g.length+1)))->ag o (aC 0 (j:Int)/\o/\aC 0 e/\ax e q/\ag D (aa [b.pos,d.pos] (False)) (aC 0 (j:Int)/\o/\aC 0 e/\ax e q/\ag E (aC 0 (j:Int)/\o/\aC 0 e/\ax e q/\aa [b.pos,d.pos,b.pos,d.pos,b.kd,d.kd] (ag F (False) (v))) (aa [b.pos,d.pos,b.pos,d.pos] (v)))) (Iv (vb aJ.n (u,[]))/\aa ([[]]:List (List UInt8)) (c_ a (l9 f (aT f.alt (cM a (ag C (Iv True/\True) (False)))))))))))))))))) (Iv (CK (y.s,false))/\aa [y.s.r] (aa [y.s.c] (Iv (zn (rr.mk y.l 700))/\w (Iv True/\True))))
def QaR:∀y,Wp y=QtO y:=λy=>by kernel_rfl
def Wq (y:sP):Prop:=let n:=C0 y;let i:=ew y;let a:=lX y.s;let J:=ab (vU y);let A:=ab n;let u:=bM a.q;let v:=bM a.p;let Q:=bW n J;let d:=(mr y).2.1;let B:=VZ.mk y.k 0 (ab i);let f:=bW i (jr B);let b:=aA.mk a 0 0 0 0 false [] v u gM;let K:=oD aJ.c b i;let e:=(cx aJ.c b i).2;let C:=oD aJ.c b f;let w:=aA.mk a d.pos d.line 0 0 d.aE [] d.alt d.ba gM;let L:=oD aJ.c w [];let D:=(w,([]:List UInt8));let M:=az (ab (cx aJ.c w []).2.2) 0;let I:=λp:Prop=>aa [y.l] (aa ([700]:List Int) p);let m:=λp:Prop=>aa ([0,0]:List Int) p;let E:Prop:=(aa ([[]]:List (List UInt8)) (c_ a (l9 d (aT d.ba (aT d.alt (cM a (ag M (Iv True/\True) (False))))))));let F:Prop:=(aa [f] (c_ a (m (false=false/\aT u (aT v (cM a (∃z:Unit,e.2=n/\(cx aJ.c b f).2.2=vU y/\c_ a (e.1.pos=d.pos/\e.1.line=d.line/\e.1.aE=d.aE/\False))))))));let G:Prop:=(aa [f] (c_ a (m (false=false/\aT u (aT v (cM a (∃z:Unit,e.2=n/\(cx aJ.c b f).2.2=vU y/\c_ a (e.1.pos=d.pos/\e.1.line=d.line/\e.1.aE=d.aE/\dE e.1.ba d.ba (dE e.1.alt d.alt (cM a ((Iv (qI y.s)))))))))))));ag (qI y.s) (Iv (CK (y.s,true))/\aa [y.s.r] (aa [y.s.c] (Iv (zn (rr.mk y.l 700))/\I ((ag (rp a) (Iv (hU (a,true))/\cM a (∃z:Unit,aa [y.k] (rv (rr.mk y.l 700)=i/\c_ a (m (false=false/\aT u (aT v (cM a ((Iv (qI y.s)))))))))) (Iv (hU (a,false))/\cM a (∃z:Unit,aa [y.k] (rv (rr.mk y.l 700)=i/\c_ a (False)))))/\(∀x:Unit,(Iv (qI y.s))->(ag (rp a) (Iv (hU (a,true))/\cM a (∃z:Unit,aa [y.k] (aa [i] (c_ a (m (false=false/\aT u (aT v (c_ a (m (false=false/\aT u (aT v (cM a ((Iv (qI y.s))))))))))))))) (Iv (hU (a,false))/\cM a (∃z:Unit,aa [y.k] (aa [i] (c_ a (False))))))/\(∀x1:Unit,(Iv (qI y.s))->Iv (FH B)/\aa ([y.k,0,ab i]:List Int) ((ag K (Iv (nZ aJ.c ((b,i),true))/\aa [i] (c_ a (m (false=false/\aT u (aT v (cM a (aC 0 (jr B)/\aC (jr B) (ab i)/\ag C (Iv (nZ aJ.c ((b,f),true))/\F) (Iv (nZ aJ.c ((b,f),false))/\F)))))))) (Iv (nZ aJ.c ((b,i),false))/\aa [i] (c_ a (m (false=false/\aT u (aT v (cM a (aC 0 (jr B)/\aC (jr B) (ab i)/\ag C (Iv (nZ aJ.c ((b,f),true))/\G) (Iv (nZ aJ.c ((b,f),false))/\G)))))))))/\(∀R:Unit,(Iv (qI y.s))->ag (ax A J) (False) (aC 0 J/\aC J A/\Iv (Q.length<=1000000000000)/\aa [Q] (vU y=Q/\(∃z:Nat,aa [n] (1=(z:Int)/\c_ a (l9 d (aT d.ba (aT d.alt (cM a ((Iv (1<=z/\z<=(n.length+1))))))))))/\(∀o:Nat,let t:=ax (o:Int) A;let j:=da .i64 (o:Int) 1;let g:=gt (Found.mk 0 0 0 0 0 0 0 0 0 0 0 0 0) n (o:Int).toNat;let h:=gt (Found.mk 0 0 0 0 0 0 0 0 0 0 0 0 0) n j.toNat;let N:=ax g.pos h.pos;let O:=az g.pos h.pos;let P:=aC g.kd h.kd;let H:Prop:=(∃z:Nat,aa [n] (an .i64 (o:Int) 1=(z:Int)/\c_ a (l9 d (aT d.ba (aT d.alt (cM a ((Iv ((1<=z/\z<=(n.length+1))/\((n.length+1) -z)<((n.length+1) -o))))))))));(Iv (1<=o/\o<=(n.length+1)))->ag t (aC 0 (o:Int)/\t/\aC 0 j/\ax j A/\ag N (aa [g.pos,h.pos] (False)) (aC 0 (o:Int)/\t/\aC 0 j/\ax j A/\ag O (aC 0 (o:Int)/\t/\aC 0 j/\ax j A/\aa [g.pos,h.pos,g.pos,h.pos,g.kd,h.kd] (ag P (False) (H))) (aa [g.pos,h.pos,g.pos,h.pos] (H)))) (ag L (Iv (nZ aJ.c (D,true))/\E) (Iv (nZ aJ.c (D,false))/\E))))))))))))) (Iv (CK (y.s,false))/\aa [y.s.r] (aa [y.s.c] (Iv (zn (rr.mk y.l 700))/\I (Iv True/\True))))
def QaS:∀y,Wq y=QtP y:=λy=>by kernel_rfl
def Wr (y:sP):Prop:=let n:=C0 y;let i:=ew y;let a:=lX y.s;let J:=ab (vU y);let B:=ab n;let v:=bM a.q;let w:=bM a.p;let P:=bW n J;let b:=(mr y).2.1;let C:=VZ.mk y.k 0 (ab i);let f:=bW i (jr C);let e:=aA.mk a 0 0 0 0 false [] w v gM;let K:=oD aJ.c e i;let A:=(cx aJ.c e i).2;let d:=A.1;let D:=oD aJ.c e f;let E:=aA.mk a b.pos b.line b.event b.size b.aE b.ends b.alt b.ba b.cur;let L:=az (ab (cx aJ.o E []).2.2) 0;let m:=λp:Prop=>aa ([0,0]:List Int) p;let I:=λp:Prop=>aa [y.l] (aa ([700]:List Int) p);let F:Prop:=(aa [f] (c_ a (m (false=false/\aT v (aT w (cM a (∃z:Unit,A.2=n/\(cx aJ.c e f).2.2=vU y/\c_ a (d.pos=b.pos/\d.line=b.line/\d.aE=b.aE/\False))))))));let G:Prop:=(aa [f] (c_ a (m (false=false/\aT v (aT w (cM a (∃z:Unit,A.2=n/\(cx aJ.c e f).2.2=vU y/\c_ a (d.pos=b.pos/\d.line=b.line/\d.aE=b.aE/\d.event=b.event/\d.size=b.size/\d.ends=b.ends/\dE d.ba b.ba (dE d.alt b.alt (dE d.cur b.cur (cM a ((Iv (qI y.s))))))))))))));ag (qI y.s) (Iv (CK (y.s,true))/\aa [y.s.r] (aa [y.s.c] (Iv (zn (rr.mk y.l 700))/\I ((ag (rp a) (Iv (hU (a,true))/\cM a (∃z:Unit,aa [y.k] (rv (rr.mk y.l 700)=i/\c_ a (m (false=false/\aT v (aT w (cM a ((Iv (qI y.s)))))))))) (Iv (hU (a,false))/\cM a (∃z:Unit,aa [y.k] (rv (rr.mk y.l 700)=i/\c_ a (False)))))/\(∀x:Unit,(Iv (qI y.s))->(ag (rp a) (Iv (hU (a,true))/\cM a (∃z:Unit,aa [y.k] (aa [i] (c_ a (m (false=false/\aT v (aT w (c_ a (m (false=false/\aT v (aT w (cM a ((Iv (qI y.s))))))))))))))) (Iv (hU (a,false))/\cM a (∃z:Unit,aa [y.k] (aa [i] (c_ a (False))))))/\(∀x1:Unit,(Iv (qI y.s))->Iv (FH C)/\aa ([y.k,0,ab i]:List Int) ((ag K (Iv (nZ aJ.c ((e,i),true))/\aa [i] (c_ a (m (false=false/\aT v (aT w (cM a (aC 0 (jr C)/\aC (jr C) (ab i)/\ag D (Iv (nZ aJ.c ((e,f),true))/\G) (Iv (nZ aJ.c ((e,f),false))/\G)))))))) (Iv (nZ aJ.c ((e,i),false))/\aa [i] (c_ a (m (false=false/\aT v (aT w (cM a (aC 0 (jr C)/\aC (jr C) (ab i)/\ag D (Iv (nZ aJ.c ((e,f),true))/\F) (Iv (nZ aJ.c ((e,f),false))/\F)))))))))/\(∀Q:Unit,(Iv (qI y.s))->ag (ax B J) (False) (aC 0 J/\aC J B/\Iv (P.length<=1000000000000)/\aa [P] (vU y=P/\(∃z:Nat,aa [n] (1=(z:Int)/\c_ a (oH b (aT b.ba (aT b.alt (aT b.cur (cM a ((Iv (1<=z/\z<=(n.length+1)))))))))))/\(∀t:Nat,let u:=ax (t:Int) B;let j:=da .i64 (t:Int) 1;let g:=gt (Found.mk 0 0 0 0 0 0 0 0 0 0 0 0 0) n (t:Int).toNat;let h:=gt (Found.mk 0 0 0 0 0 0 0 0 0 0 0 0 0) n j.toNat;let M:=ax g.pos h.pos;let N:=az g.pos h.pos;let O:=aC g.kd h.kd;let H:Prop:=(∃z:Nat,aa [n] (an .i64 (t:Int) 1=(z:Int)/\c_ a (oH b (aT b.ba (aT b.alt (aT b.cur (cM a ((Iv ((1<=z/\z<=(n.length+1))/\((n.length+1) -z)<((n.length+1) -t)))))))))));(Iv (1<=t/\t<=(n.length+1)))->ag u (aC 0 (t:Int)/\u/\aC 0 j/\ax j B/\ag M (aa [g.pos,h.pos] (False)) (aC 0 (t:Int)/\u/\aC 0 j/\ax j B/\ag N (aC 0 (t:Int)/\u/\aC 0 j/\ax j B/\aa [g.pos,h.pos,g.pos,h.pos,g.kd,h.kd] (ag O (False) (H))) (aa [g.pos,h.pos,g.pos,h.pos] (H)))) (Iv (Μ (E,[]))/\aa ([[]]:List (List UInt8)) (c_ a (oH b (aT b.ba (aT b.alt (aT b.cur (cM a (ag L (Iv True/\True) (False)))))))))))))))))))) (Iv (CK (y.s,false))/\aa [y.s.r] (aa [y.s.c] (Iv (zn (rr.mk y.l 700))/\I (Iv True/\True))))
def QaT:∀y,Wr y=QtQ y:=λy=>by kernel_rfl
theorem Qf3 (l:List mP):(rv ⟨l,700⟩).length<=700:=by
 grind [rv]
theorem LO {s:b7} (h:qI s):qV (lX s).p/\OK (lX s).q/\(rp (lX s)->qV (lX s).q/\(lX s).q.ah.length=1):=by
 rw[show lX s=_ from aq _];obtain⟨h1,b,d⟩:=LM (y:=n_ s) (by grind [LH]) h;refine⟨h1,b,λa=>d λe=>?_⟩;have a:(!seq (n_ s).c []):=a;grind
def Ju {s:b7} {b:Bool} (h:qI s) (a:b=rp (lX s)):hU (lX s,b):=⟨(LO h).1,(LO h).2.1,λk=>((LO h).2.2 k).1,a⟩
def Qma {y:sP} {f:aJ} (b:f=.n\/f=.c) (h:qI y.s) (e:f=.c->rp (lX y.s)):pz f (oc f y):=by
 obtain⟨h1,_,d⟩:=LO h;obtain⟨a,a2,a3,a4⟩:=Qdh b h1 (λk=>d (e k));rcases b with rfl | rfl
 ·exact⟨a,nofun,nofun,a4⟩
 ·exact⟨a,a2,a3,a4⟩
structure QtR (y:sP) (f:aJ):Prop where
 ed:∀b:By,b.length<=700->vb f (oc f y,b)
 len:(ew y).length<=700
 wit:FH ⟨y.k,0,(ew y).length⟩
 k0:0<=CM y
 k1:CM y<=(ew y).length
 tk:(bW (ew y) (CM y)).length=(CM y).toNat
 eF:mr y=bb f (oc f y) (ew y) (ew y).length
 eS:vU y=(bb f (oc f y) (bW (ew y) (CM y)) (bW (ew y) (CM y)).length).2.2
 eA:C0 y=(mr y).2.2
 pre:vU y=bW (C0 y) (ab (vU y))
 sle:(vU y).length<=(C0 y).length
 bD:(C0 y).length<=1000000
 ris:(C0 y).Pairwise Wa
 inv:pz (mr y).1 (mr y).2.1
 pos:(mr y).2.1.pos<=700
variable {g:aJ} {A:List Found}
theorem LP {y:sP} {f:aJ} (d:f=.n\/f=.c) (h:qI y.s) (i:f=(if rp (lX y.s)=true then .c else .n)):QtR y f:=by
 have j:ew y=rv ⟨y.l,700⟩:=aq _;have g:pz f (oc f y):=Qma d h λk=>by
  grind
 have hl:(ew y).length<=700:=by grind [Qf3]
 have hw:FH ⟨y.k,0,(ew y).length⟩:=⟨ZaQ _,by grind,by grind⟩;obtain⟨k0,k1⟩:=LF hw;have k0:0<=CM y:=k0;have k1:CM y<=(ew y).length:=k1;have e:f=.n\/f=.c\/f=.o:=d.elim .inl λh=>.inr (.inl h)
 have tk:(bW (ew y) (CM y)).length=(CM y).toNat:=by grind [bW]
 have m:lwI y=f:=i.symm;have eF:mr y=bb f (oc f y) (ew y) (ew y).length:=by grind [mr]
 have eA:C0 y=(mr y).2.2:=aq _;have a:vU y=(bb f (oc f y) ((ew y).take (CM y).toNat) (CM y).toNat).2.2:=by grind [vU,aq]
 have pp:vU y<+:C0 y:=by
  rw[a,eA,eF,FO ω _ (Zah _)];have:=LN (f:=f) (y:=oc f y) (b:=ew y) (CM y).toNat ((ew y).length-(CM y).toNat);grind
 obtain⟨i1,i2,i3,_⟩:=rk (b:=ew y) e g (by show(0:Int)+_<=_;omega) _ (Zah _);refine⟨λb p=>⟨g,by grind,by show(0:Int)+b.length<=_;omega⟩,hl,hw,k0,k1,tk,eF,?_,eA,?_,pp.length_le,?_,?_,eF▸i1,?_⟩
 ·rw[a,tk];rfl
 ·have:=List.prefix_iff_eq_take.1 pp;exact this
 ·grind
 ·rw[eA,eF];exact(FN d (ZaQ _) _).1.1
 ·rw[eF,i2];show(0:Int)+_<=_
  omega
theorem Qf4 (h:A.Pairwise Wa) (c:A.length<=1000000) {x:Nat} (h1:1<=x) (b:x<A.length):da .i64 (x:Int) 1=((x-1:Nat):Int)/\ax (gt (Found.mk 0 0 0 0 0 0 0 0 0 0 0 0 0) A x).pos (gt (Found.mk 0 0 0 0 0 0 0 0 0 0 0 0 0) A (x-1)).pos=false/\
  (az (gt (Found.mk 0 0 0 0 0 0 0 0 0 0 0 0 0) A x).pos (gt (Found.mk 0 0 0 0 0 0 0 0 0 0 0 0 0) A (x-1)).pos->aC (gt (Found.mk 0 0 0 0 0 0 0 0 0 0 0 0 0) A x).kd (gt (Found.mk 0 0 0 0 0 0 0 0 0 0 0 0 0) A (x-1)).kd=false):=by
 have g:∀i (hi:i<A.length),gt (Found.mk 0 0 0 0 0 0 0 0 0 0 0 0 0) A i=A[i]:=λi hi=>by
  grind
 have a:=ZbD.1 h (x-1) x ω b ω;rw[g x b,g (x-1) ω,gG,gg,QbI];refine⟨by grind,?_,λe=>?_⟩
 ·rcases a with a | a<;>omega
 ·rcases a with a | a
  ·omega
  ·exact a.2
theorem CO (h:A.Pairwise Wa) (a:A.length<=1000000) (x:Nat) (b:1<=x/\x<=A.length+1) (k:ax (x:Int) (ab A)):aC 0 (x:Int)/\ax (x:Int) (ab A)/\aC 0 (da .i64 (x:Int) 1)/\ax (da .i64 (x:Int) 1) (ab A)/\ax (gt (Found.mk 0 0 0 0 0 0 0 0 0 0 0 0 0) A (x:Int).toNat).pos (gt (Found.mk 0 0 0 0 0 0 0 0 0 0 0 0 0) A (da .i64 (x:Int) 1).toNat).pos=false/\
  (az (gt (Found.mk 0 0 0 0 0 0 0 0 0 0 0 0 0) A (x:Int).toNat).pos (gt (Found.mk 0 0 0 0 0 0 0 0 0 0 0 0 0) A (da .i64 (x:Int) 1).toNat).pos->aC (gt (Found.mk 0 0 0 0 0 0 0 0 0 0 0 0 0) A (x:Int).toNat).kd (gt (Found.mk 0 0 0 0 0 0 0 0 0 0 0 0 0) A (da .i64 (x:Int) 1).toNat).kd=false)/\
  ∃z:Nat,an .i64 (x:Int) 1=(z:Int)/\(1<=z/\z<=A.length+1)/\A.length+1-z<A.length+1-x:=by
 have k2:x<A.length:=by grind
 obtain⟨c,d,e⟩:=Qf4 h a b.1 k2;rw[c];simp only[Zad];refine⟨dP.2 ω,k,dP.2 ω,gf.2 (by grind),d,e,x+1,aV ω ω,⟨ω,ω⟩,ω⟩
theorem Jv {y:sP×aJ} (h:lwP y):zn ⟨y.1.l,700⟩:=⟨by grind,by grind,h.1,h.2.1⟩
def Jw (y:sP):rv ⟨y.l,700⟩=ew y:=(aq _).symm
theorem vV {y:sP} (h:qI y.s) (d:g=Wc y):(rp (lX y.s)->g=.c\/g=.o)/\(rp (lX y.s)=false->g=.n):=by
 have d:g=(mr y).1:=by grind [Wc]
 have key:∀f,(f=.n\/f=.c)->f=(if rp (lX y.s)=true then aJ.c else .n)->(f=.n->g=.n)/\(Lh f->g=.c\/g=.o):=λf a i=>by
  have L:=LP a h i;obtain⟨e,a2,a3⟩:=L.ed (ew y) L.len;obtain⟨_,_,_,i4,i5⟩:=rk (b:=ew y) (a.elim .inl λh=>.inr (.inl h)) e a3 _ (Zah _);rw[d,L.eF];grind
 refine⟨λk=>(key .c (.inr rfl) (by grind)).2 rfl,λk=>(key .n (.inl rfl) (by grind)).1 rfl⟩
theorem QtU (y:sP) (f:lwP (y,.n)):Wp y:=by
 have ht:=Jv f;have i:aJ.n=Wc y:=f.2.2;unfold Wp;simp only[dq,gZ,cD,cb,cm,Jw];refine⟨λhl=>⟨hl.symm,ht,?_⟩,λhl=>⟨hl.symm,ht⟩⟩;have c:rp (lX y.s)=false:=by
  cases c:rp (lX y.s)
  ·rfl
  ·rcases(vV hl i).1 c with e | e<;>cases e
 have L:=LP (.inl rfl) hl (by grind);simp only[c,ZaE,ZbV,ZaX,Zal,ZaZ,ZaY,hl];have d:=Ju hl c.symm;have h:(bW (ew y) (CM y)).length<=700:=by rw[L.tk];have:=L.k1;have:=L.len;omega
 have a:mr y=bb .n (oc .n y) (ew y) (ew y).length:=L.eF;have b:ax (ab (C0 y)) (ab (vU y))=false:=gG.2 (by have:=L.sle;rw[aj,aj];omega);refine⟨⟨d,trivial⟩,⟨d,trivial⟩,L.wit,⟨L.ed _ L.len,dP.2 L.k0,dP.2 L.k1,L.ed _ h,by rw[L.eA,a];rfl,L.eS.symm,by rw[a];rfl,by rw[a];rfl,by rw[a];rfl,br (by rw[a];rfl) trivial⟩,λq=>Bool.noConfusion (b.symm.trans q),λ_=>⟨dP.2 (by grind),dP.2 (gG.1 b),?_,L.pre,⟨1,rfl,Zah _,ZcU (Zaj _)⟩,λx j=>⟨λg=>?_,λg=>?_⟩⟩⟩
 ·rw[<-L.pre];have:=L.sle;have:=L.bD;omega
 ·obtain⟨k,l,m,o,p,r,t⟩:=CO L.ris L.bD x j g;grind
 ·have e:aJ.n=(mr y).1:=by grind [Wc]
  obtain⟨i1,_,_,i4⟩:pz .n (mr y).2.1:=e▸L.inv;have:=L.pos;exact⟨⟨⟨i1,nofun,nofun,i4⟩,Zaj _,by grind⟩,λ_=>trivial,λq=>Bool.noConfusion ((gg.2 rfl).symm.trans q)⟩
theorem QtV (y:sP) (h:lwP (y,.c)):Wq y:=by
 have ht:=Jv h;have l:aJ.c=Wc y:=h.2.2;have j:(⟨lX y.s,0,0,0,0,false,[],bM (lX y.s).p,bM (lX y.s).q,gM⟩:aA)=oc .c y:=rfl;unfold Wq;simp only[dq,gZ,cD,cb,cm,Jw,j];refine⟨λhl=>⟨hl.symm,ht,?_⟩,λhl=>⟨hl.symm,ht⟩⟩;have d:rp (lX y.s):=by
  cases d:rp (lX y.s)
  ·cases(vV hl l).2 d
  ·rfl
 have L:=LP (.inr rfl) hl (by grind);have e:aJ.c=(mr y).1:=by grind [Wc]
 have hO:oD .c (oc .c y) (ew y)=false:=by
  show isO (bb .c (oc .c y) (ew y) (ew y).length).1=false
  rw[<-L.eF,<-e];rfl
 simp only[d,Zb0,ZaE,ZbV,ZaX,Zal,Zai,ZaZ,ZaY,hl,hO];have g:=Ju hl d.symm;have f:(bW (ew y) (CM y)).length<=700:=by rw[L.tk];have:=L.k1;have:=L.len;omega
 have a:mr y=bb .c (oc .c y) (ew y) (ew y).length:=L.eF;have b:ax (ab (C0 y)) (ab (vU y))=false:=gG.2 (by have:=L.sle;rw[aj,aj];omega);have rows:∀{P:Prop},P->(P/\(bb .c (oc .c y) (ew y) (ew y).length).2.2=C0 y/\(bb .c (oc .c y) (bW (ew y) (jr ⟨y.k,0,ab (ew y)⟩)) (bW (ew y) (jr ⟨y.k,0,ab (ew y)⟩)).length).2.2=vU y/\(bb .c (oc .c y) (ew y) (ew y).length).2.1.pos=(mr y).2.1.pos/\(bb .c (oc .c y) (ew y) (ew y).length).2.1.line=(mr y).2.1.line/\(bb .c (oc .c y) (ew y) (ew y).length).2.1.aE=(mr y).2.1.aE/\dE (bb .c (oc .c y) (ew y) (ew y).length).2.1.ba (mr y).2.1.ba (dE (bb .c (oc .c y) (ew y) (ew y).length).2.1.alt (mr y).2.1.alt True)):=λp=>⟨p,by rw[L.eA,a],L.eS.symm,by rw[a],by rw[a],by rw[a],br (by rw[a]) (br (by rw[a]) trivial)⟩
 refine⟨g,g,L.wit,⟨⟨L.ed _ L.len,hO.symm⟩,dP.2 L.k0,dP.2 L.k1,λq=>rows ⟨L.ed _ f,q.symm⟩,λq=>rows ⟨L.ed _ f,q.symm⟩⟩,λq=>Bool.noConfusion (b.symm.trans q),λ_=>⟨dP.2 (by grind),dP.2 (gG.1 b),?_,L.pre,⟨1,rfl,Zah _,ZcU (Zaj _)⟩,λx m=>⟨λi=>?_,λi=>?_⟩⟩⟩
 ·rw[<-L.pre];have:=L.sle;have:=L.bD;omega
 ·obtain⟨n,o,r,t,u,v,w⟩:=CO L.ris L.bD x m i;grind
 ·obtain⟨i1,i2,_,i4⟩:pz .c (mr y).2.1:=e▸L.inv;have:=L.pos;exact⟨λq=>Bool.noConfusion q,λ_=>⟨⟨⟨⟨i1,i2,nofun,i4⟩,Zaj _,by grind⟩,rfl⟩,λ_=>trivial,λq=>Bool.noConfusion ((gg.2 rfl).symm.trans q)⟩⟩
theorem QtW (y:sP) (h:lwP (y,.o)):Wr y:=by
 have ht:=Jv h;have l:aJ.o=Wc y:=h.2.2;have j:(⟨lX y.s,0,0,0,0,false,[],bM (lX y.s).p,bM (lX y.s).q,gM⟩:aA)=oc .c y:=rfl;unfold Wr;simp only[dq,gZ,cD,cb,cm,Jw,j];refine⟨λhl=>⟨hl.symm,ht,?_⟩,λhl=>⟨hl.symm,ht⟩⟩;have d:rp (lX y.s):=by
  cases d:rp (lX y.s)
  ·cases(vV hl l).2 d
  ·rfl
 have L:=LP (.inr rfl) hl (by grind);have e:aJ.o=(mr y).1:=by grind [Wc]
 have hO:oD .c (oc .c y) (ew y):=by
  show isO (bb .c (oc .c y) (ew y) (ew y).length).1
  rw[<-L.eF,<-e];rfl
 simp only[d,Zb0,ZaE,ZbV,ZaX,Zal,Zai,ZaZ,ZaY,hl,hO];have g:=Ju hl d.symm;have f:(bW (ew y) (CM y)).length<=700:=by rw[L.tk];have:=L.k1;have:=L.len;omega
 have a:mr y=bb .c (oc .c y) (ew y) (ew y).length:=L.eF;have b:ax (ab (C0 y)) (ab (vU y))=false:=gG.2 (by have:=L.sle;rw[aj,aj];omega);have rows:∀{P:Prop},P->(P/\(bb .c (oc .c y) (ew y) (ew y).length).2.2=C0 y/\(bb .c (oc .c y) (bW (ew y) (jr ⟨y.k,0,ab (ew y)⟩)) (bW (ew y) (jr ⟨y.k,0,ab (ew y)⟩)).length).2.2=vU y/\(bb .c (oc .c y) (ew y) (ew y).length).2.1.pos=(mr y).2.1.pos/\(bb .c (oc .c y) (ew y) (ew y).length).2.1.line=(mr y).2.1.line/\(bb .c (oc .c y) (ew y) (ew y).length).2.1.aE=(mr y).2.1.aE/\(bb .c (oc .c y) (ew y) (ew y).length).2.1.event=(mr y).2.1.event/\(bb .c (oc .c y) (ew y) (ew y).length).2.1.size=(mr y).2.1.size/\(bb .c (oc .c y) (ew y) (ew y).length).2.1.ends=(mr y).2.1.ends/\dE (bb .c (oc .c y) (ew y) (ew y).length).2.1.ba (mr y).2.1.ba (dE (bb .c (oc .c y) (ew y) (ew y).length).2.1.alt (mr y).2.1.alt (dE (bb .c (oc .c y) (ew y) (ew y).length).2.1.cur (mr y).2.1.cur True))):=λp=>⟨p,by rw[L.eA,a],L.eS.symm,by rw[a],by rw[a],by rw[a],by rw[a],by rw[a],by rw[a],br (by rw[a]) (br (by rw[a]) (br (by rw[a]) trivial))⟩
 refine⟨g,g,L.wit,⟨⟨L.ed _ L.len,hO.symm⟩,dP.2 L.k0,dP.2 L.k1,λq=>rows ⟨L.ed _ f,q.symm⟩,λq=>rows ⟨L.ed _ f,q.symm⟩⟩,λq=>Bool.noConfusion (b.symm.trans q),λ_=>⟨dP.2 (by grind),dP.2 (gG.1 b),?_,L.pre,⟨1,rfl,Zah _,ZcU (Zaj _)⟩,λx m=>⟨λi=>?_,λi=>?_⟩⟩⟩
 ·rw[<-L.pre];have:=L.sle;have:=L.bD;omega
 ·obtain⟨n,r,t,u,v,w,z⟩:=CO L.ris L.bD x m i;grind
 ·obtain⟨i1,i2,i3,i4⟩:pz .o (mr y).2.1:=e▸L.inv;have:=L.pos;exact⟨⟨⟨⟨i1,i2,i3,i4⟩,Zaj _,by grind⟩,rfl⟩,λ_=>trivial,λq=>Bool.noConfusion ((gg.2 rfl).symm.trans q)⟩
def QtX {k:bf D} {X:Type} {fn:Func} {tab:vE} {d:k.Y->cH D} (e:k.Y->X×aJ) (e2:X×aJ->k.Y) (t:∀y,e2 (e y)=y) {N C O:X->Prop} (r:∀x,N x=vc tab fn k d (e2 (x,.n))) (q:∀x,C x=vc tab fn k d (e2 (x,.c))) (hO:∀x,O x=vc tab fn k d (e2 (x,.o))) (ht:WZ tab)
  (h1:∀x,k.pre (e2 (x,.n))->N x) (i:∀x,k.pre (e2 (x,.c))->C x) (j:∀x,k.pre (e2 (x,.o))->O x) (l:∀x,¬k.pre (e2 (x,.p))) (m:∀x,¬k.pre (e2 (x,.a))) (h:Tryz.prog.funcs[k.f]?=some fn:=by kernel_rfl) (s:fn.body.isSome:=by kernel_rfl):Ok k:=
 okW (V:=λy=>vc tab fn k d y) (λ_=>rfl) ht (λy g=>by
  show vc tab fn k d y
  rw[<-t y] at g ⊢;generalize e y=p at g ⊢;obtain⟨x,b⟩:=p;cases b with
  | n=>rw[<-r];exact h1 x g
  | c=>rw[<-q];exact i x g
  | o=>rw[<-hO];exact j x g
  | p=>exact absurd g (l x)
  | a=>exact absurd g (m x)) h s
theorem Ws (y:sP) (h:lwP (y,g)):g=.n\/g=.c\/g=.o:=by
 have d:g=Wc y:=h.2.2;by_cases hl:qI y.s
 ·obtain⟨a,b⟩:=vV hl d;grind
 ·rw[d];exact .inl (Zaa hl)
def QtY (hl:Ok tL) (b:Ok zm) (a:Ok dc) (hs:Ok Wd):Ok lwC:=QtX (k:=lwC) id id (λ_=>rfl) QaR QaS QaT (by unfold lwT;exact⟨Ql7 hl b,Ql4,hs,IY a,Qdg,Qk8,Qc0,Qc1,Ql3⟩) QtU QtV QtW
 (λy h=>by rcases Ws y h with e | e | e<;>cases e) (λy h=>by rcases Ws y h with e | e | e<;>cases e)
def srS:b7:=lk ⟨[⟨[97],[120]⟩],[94,32]⟩
def cg:nW:=lk ⟨srS,⟨(bL srS).code,(bL srS).st⟩,⟨(bL srS).cc,(bL srS).cs⟩,(aW srS).tab⟩
def W4:By:=[b8 97,b8 120,b8 10,b8 32,b8 98]
def yQ:By:=[b8 120,b8 10,b8 99,b8 10]
def b_:aA:=lk (cx .c (sM cg) W4).2.1
def gC:aA:=lk (cx .o (iu cg b_) yQ).2.1
def srO:List Found:=lk (cx .o (iu cg b_) yQ).2.2
def srL (sl:List (Nat×AV D.E)) (pc:List (Nat×AO D.E)):gP D:=⟨Unit,[],λ_=>sl,[],λ_=>pc,25,λ_=>True,λ_=>0⟩
def srC (n:Nat):cH D:=⟨[],[3,5],[],[(3,srL [(1,.ptr 0 0),(2,.num .i64 0)] (Un cg)),(7,srL [(1,.ptr 0 0),(2,.num .i64 0),(4,.ptr 3 0),(5,.num .i64 0)] (fc .c 4 (sM cg))),(15,srL [(1,.ptr 0 0),(4,.ptr 3 0)] (fc .o 4 (iu cg b_))),(31,srL [(1,.ptr 0 0),(4,.ptr 3 0),(6,.list 4 srO)] (fc .o 4 (iu cg gC)))],n,[]⟩
def Qdi (y:Unit):Prop:=let b:=λp:Prop=>aa [([lC.mk [97] [120]]:List lC)] (aa ([[94,32]]:List (List UInt8)) p);let a:=λp:Prop=>aa ([0,0]:List Int) p;let e:=λp:Prop=>aa [([b8 97,b8 120,b8 10,b8 32,b8 98]:List UInt8)] p;(ag (l8 (b7.mk [lC.mk [97] [120]] [94,32])) (Iv (oA (b7.mk [lC.mk [97] [120]] [94,32],true))/\b (∃z:Unit,aa ([0]:List Int) (([lC.mk [97] [120]]:List lC)=cg.s.r/\[94,32]=cg.s.c/\(bL (b7.mk [lC.mk [97] [120]] [94,32])).code=cg.p.code/\(bL (b7.mk [lC.mk [97] [120]] [94,32])).st=cg.p.ah/\(bL (b7.mk [lC.mk [97] [120]] [94,32])).cc=cg.q.code/\(bL (b7.mk [lC.mk [97] [120]] [94,32])).cs=cg.q.ah/\ab (aW (b7.mk [lC.mk [97] [120]] [94,32])).tab=ab cg.t/\(aW (b7.mk [lC.mk [97] [120]] [94,32])).tab=cg.t/\(Iv True)))) (Iv (oA (b7.mk [lC.mk [97] [120]] [94,32],false))/\b (∃z:Unit,False)))/\(∀x:Unit,(Iv True)->(ag (rp cg) (Iv (hU (cg,true))/\cM cg (∃z:Unit,c_ cg (a (false=false/\aT (bM cg.q) (aT (bM cg.p) (cM cg ((Iv True)))))))) (Iv (hU (cg,false))/\cM cg (∃z:Unit,c_ cg (False))))/\(∀x1:Unit,(Iv True)->(Tt 1 (ag (oD aJ.c (aA.mk cg 0 0 0 0 false [] (bM cg.p) (bM cg.q) gM) [b8 97,b8 120,b8 10,b8 32,b8 98]) (Iv (nZ aJ.c ((aA.mk cg 0 0 0 0 false [] (bM cg.p) (bM cg.q) gM,[b8 97,b8 120,b8 10,b8 32,b8 98]),true))/\e (c_ cg (a (false=false/\aT (bM cg.q) (aT (bM cg.p) (cM cg (ag (!(az (ab (cx aJ.c (aA.mk cg 0 0 0 0 false [] (bM cg.p) (bM cg.q) gM) [b8 97,b8 120,b8 10,b8 32,b8 98]).2.2) 0)) (False) (∃z:Unit,c_ cg ((cx aJ.c (aA.mk cg 0 0 0 0 false [] (bM cg.p) (bM cg.q) gM) [b8 97,b8 120,b8 10,b8 32,b8 98]).2.1.pos=b_.pos/\(cx aJ.c (aA.mk cg 0 0 0 0 false [] (bM cg.p) (bM cg.q) gM) [b8 97,b8 120,b8 10,b8 32,b8 98]).2.1.line=b_.line/\(cx aJ.c (aA.mk cg 0 0 0 0 false [] (bM cg.p) (bM cg.q) gM) [b8 97,b8 120,b8 10,b8 32,b8 98]).2.1.aE=b_.aE/\(cx aJ.c (aA.mk cg 0 0 0 0 false [] (bM cg.p) (bM cg.q) gM) [b8 97,b8 120,b8 10,b8 32,b8 98]).2.1.event=b_.event/\(cx aJ.c (aA.mk cg 0 0 0 0 false [] (bM cg.p) (bM cg.q) gM) [b8 97,b8 120,b8 10,b8 32,b8 98]).2.1.size=b_.size/\(cx aJ.c (aA.mk cg 0 0 0 0 false [] (bM cg.p) (bM cg.q) gM) [b8 97,b8 120,b8 10,b8 32,b8 98]).2.1.ends=b_.ends/\dE (cx aJ.c (aA.mk cg 0 0 0 0 false [] (bM cg.p) (bM cg.q) gM) [b8 97,b8 120,b8 10,b8 32,b8 98]).2.1.ba b_.ba (dE (cx aJ.c (aA.mk cg 0 0 0 0 false [] (bM cg.p) (bM cg.q) gM) [b8 97,b8 120,b8 10,b8 32,b8 98]).2.1.alt b_.alt (dE (cx aJ.c (aA.mk cg 0 0 0 0 false [] (bM cg.p) (bM cg.q) gM) [b8 97,b8 120,b8 10,b8 32,b8 98]).2.1.cur b_.cur (cM cg ((Iv True)))))))))))))) (Iv (nZ aJ.c ((aA.mk cg 0 0 0 0 false [] (bM cg.p) (bM cg.q) gM,[b8 97,b8 120,b8 10,b8 32,b8 98]),false))/\e (c_ cg (a (false=false/\aT (bM cg.q) (aT (bM cg.p) (cM cg (ag (!(az (ab (cx aJ.c (aA.mk cg 0 0 0 0 false [] (bM cg.p) (bM cg.q) gM) [b8 97,b8 120,b8 10,b8 32,b8 98]).2.2) 0)) (False) (∃z:Unit,c_ cg ((cx aJ.c (aA.mk cg 0 0 0 0 false [] (bM cg.p) (bM cg.q) gM) [b8 97,b8 120,b8 10,b8 32,b8 98]).2.1.pos=b_.pos/\(cx aJ.c (aA.mk cg 0 0 0 0 false [] (bM cg.p) (bM cg.q) gM) [b8 97,b8 120,b8 10,b8 32,b8 98]).2.1.line=b_.line/\(cx aJ.c (aA.mk cg 0 0 0 0 false [] (bM cg.p) (bM cg.q) gM) [b8 97,b8 120,b8 10,b8 32,b8 98]).2.1.aE=b_.aE/\False)))))))))))/\(∀f:Unit,(Iv True)->(Tt 1 (Iv (Μ (aA.mk cg b_.pos b_.line b_.event b_.size b_.aE b_.ends b_.alt b_.ba b_.cur,[b8 120,b8 10,b8 99,b8 10]))/\aa [([b8 120,b8 10,b8 99,b8 10]:List UInt8)] (c_ cg (oH b_ (aT b_.ba (aT b_.alt (aT b_.cur (cM cg (∃z:Unit,(cx aJ.o (aA.mk cg b_.pos b_.line b_.event b_.size b_.aE b_.ends b_.alt b_.ba b_.cur) [b8 120,b8 10,b8 99,b8 10]).2.2=lk (cx aJ.o (iu cg b_) yQ).2.2/\c_ cg ((cx aJ.o (aA.mk cg b_.pos b_.line b_.event b_.size b_.aE b_.ends b_.alt b_.ba b_.cur) [b8 120,b8 10,b8 99,b8 10]).2.1.pos=gC.pos/\(cx aJ.o (aA.mk cg b_.pos b_.line b_.event b_.size b_.aE b_.ends b_.alt b_.ba b_.cur) [b8 120,b8 10,b8 99,b8 10]).2.1.line=gC.line/\(cx aJ.o (aA.mk cg b_.pos b_.line b_.event b_.size b_.aE b_.ends b_.alt b_.ba b_.cur) [b8 120,b8 10,b8 99,b8 10]).2.1.aE=gC.aE/\(cx aJ.o (aA.mk cg b_.pos b_.line b_.event b_.size b_.aE b_.ends b_.alt b_.ba b_.cur) [b8 120,b8 10,b8 99,b8 10]).2.1.event=gC.event/\(cx aJ.o (aA.mk cg b_.pos b_.line b_.event b_.size b_.aE b_.ends b_.alt b_.ba b_.cur) [b8 120,b8 10,b8 99,b8 10]).2.1.size=gC.size/\(cx aJ.o (aA.mk cg b_.pos b_.line b_.event b_.size b_.aE b_.ends b_.alt b_.ba b_.cur) [b8 120,b8 10,b8 99,b8 10]).2.1.ends=gC.ends/\dE (cx aJ.o (aA.mk cg b_.pos b_.line b_.event b_.size b_.aE b_.ends b_.alt b_.ba b_.cur) [b8 120,b8 10,b8 99,b8 10]).2.1.ba gC.ba (dE (cx aJ.o (aA.mk cg b_.pos b_.line b_.event b_.size b_.aE b_.ends b_.alt b_.ba b_.cur) [b8 120,b8 10,b8 99,b8 10]).2.1.alt gC.alt (dE (cx aJ.o (aA.mk cg b_.pos b_.line b_.event b_.size b_.aE b_.ends b_.alt b_.ba b_.cur) [b8 120,b8 10,b8 99,b8 10]).2.1.cur gC.cur (cM cg ((Iv True)))))))))))))))/\(∀g:Unit,(Iv True)->Iv (Χ aJ.o (aA.mk cg gC.pos gC.line gC.event gC.size gC.aE gC.ends gC.alt gC.ba gC.cur))/\c_ cg (oH gC (aT gC.ba (aT gC.alt (aT gC.cur (cM cg (Iv (hU (cg,true))/\l9 gC (Tt 1 (aa [gC.event,gC.size] (aa [List.map tO gC.ends] (aa [ec gC.cur.d] (aa [gC.cur.v.place] (aa [gC.cur.v.L] (aa [ec gC.alt.d] (aa [gC.alt.v.place] (aa [gC.alt.v.L] (aa [ec gC.ba.d] (aa [gC.ba.v.place] (aa [gC.ba.v.L] (cM cg (Iv True/\ag (az (ab (lk (cx aJ.o (iu cg b_) yQ).2.2)) 1) (Tt 1 (ax 0 (ab (lk (cx aJ.o (iu cg b_) yQ).2.2))/\ag (az (gt (Found.mk 0 0 0 0 0 0 0 0 0 0 0 0 0) (lk (cx aJ.o (iu cg b_) yQ).2.2) 0).pos 0) (Tt 1 (ax 0 (ab (lk (cx aJ.o (iu cg b_) yQ).2.2))/\ag (az (gt (Found.mk 0 0 0 0 0 0 0 0 0 0 0 0 0) (lk (cx aJ.o (iu cg b_) yQ).2.2) 0).c0 1) (Tt 1 (ax 0 (ab (lk (cx aJ.o (iu cg b_) yQ).2.2))/\ag (az (gt (Found.mk 0 0 0 0 0 0 0 0 0 0 0 0 0) (lk (cx aJ.o (iu cg b_) yQ).2.2) 0).c1 2) (ag (az gC.pos 9) (ag (az gC.line 9) (ag true (ag (az gC.event 7) (ag (az gC.size 1) (ag (az (ye (N8.mk cg (Τ.mk gC.pos gC.line gC.aE true gC.event gC.size (List.map tO gC.ends)) (gO.mk L2 (ig.mk (jW.mk [] []) gC.cur.v.place gC.cur.v.L (iy.mk [] i_))) (gO.mk L2 (ig.mk (jW.mk [] []) gC.alt.v.place gC.alt.v.L (iy.mk [] i_))) (gO.mk L2 (ig.mk (jW.mk [] []) gC.ba.v.place gC.ba.v.L (iy.mk [] i_))))) 7) (ag (az (ye (N8.mk cg (Τ.mk gC.pos gC.line gC.aE true gC.event gC.size (List.map tO gC.ends)) (gO.mk L2 (ig.mk (jW.mk [] []) gC.cur.v.place gC.cur.v.L (iy.mk [] i_))) (gO.mk L2 (ig.mk (jW.mk [] []) gC.alt.v.place gC.alt.v.L (iy.mk [] i_))) (gO.mk L2 (ig.mk (jW.mk [] []) gC.ba.v.place gC.ba.v.L (iy.mk [] i_))))) 7) (True) (False)) (False)) (False)) (False)) (False)) (False)) (False)) (False))) (False))) (False))) (False)))))))))))))))))))))))))
def Wt {a:Int} (h:dY (a,a)=[(a,a)]):aL [(a,a)]=[(a,a)]:=by
 unfold aL;simp only[Zbt,List.flatMap_nil,Zaw,h,List.mergeSort_singleton];rfl
def Qmc:aL [(120,120)]=[(120,120)]:=Wt (by kernel_rfl)
def Qt0:aL [(32,32)]=[(32,32)]:=Wt (by kernel_rfl)
def nX:Nd:=⟨2,[(120,120)],0,0,false,0,0⟩
def nB:Nd:=⟨7,[],0,0,false,0,0⟩
def nS:Nd:=⟨2,[(32,32)],0,0,false,0,0⟩
def nC:Nd:=⟨3,[],0,0,false,0,2⟩
def Qt1:bT [120]=([nX],0,0):=by kernel_rfl
def Qmd:bT [94,32]=([nC,nB,nS],0,0):=by kernel_rfl
def Qt2 (g:Int):bw nX g=(0,true):=by simp[bw,nX,fQ,Qmc]
def Qt3 (g:Int):bw nS g=(0,true):=by simp[bw,nS,fQ,Qt0]
def Qt4 (g:Int):bw nB g=(0,true):=by simp[bw,nB,fQ]
def Qt5 (g:Int):bw nC g=(2,true):=by simp[bw,nC,fQ]
def Qf6 {L:List Nd} {x:Nd} (n a g:Nat) (b:L[a]?=some x) (hs:∀g,bw x g=(0,true)) (c:x.op≠6):eL L (n+1) a g=(true,a+1,g):=by
 have hl:¬L.length<=a:=by have:=(Zam.1 b).1;omega
 rw[eL,Zaa hl,Zag,b,ZcV,hs,Zaa (by decide),Zaa c];rfl
def Qme:cR [nX]:=by
 unfold cR;rw[Qf6 240 0 0 rfl Qt2 (by decide)];rfl
theorem Qdj:cR [nC,nB,nS]:=by
 have h:eL [nC,nB,nS] 241 0 0=(true,3,0):=by
  rw[eL,Zaa (by decide)];show(if (bw nC 0).2=false then _ else _)=_
  rw[Qt5,Zaa (by decide)];show ee (eL [nC,nB,nS] 240) 2 1 0=_
  rw[ee,Qf6 239 1 0 rfl Qt4 (by decide),Zaa (by decide),ee,Qf6 239 2 0 rfl Qt3 (by decide),Zaa (by decide),ee]
 grind [cR]
def tX:Tree:=.mk 2 [(120,120)] 0 0 false 0 0 []
def tC:Tree:=.mk 3 [] 0 0 false 0 2 [.mk 7 [] 0 0 false 0 0 [],.mk 2 [(32,32)] 0 0 false 0 0 []]
def Qmf:(bS [nX]).1=tX:=by unfold bS;rw[aq];kernel_rfl
def Qmg:(bS [nC,nB,nS]).1=tC:=by unfold bS;rw[aq];kernel_rfl
def Qt6:aN [nX]=[nX]:=by
 unfold aN;rw[Zac Qme,Qmf]
 kernel_rfl
theorem Qt7:aN [nC,nB,nS]=[nC,nB,nS]:=by
 unfold aN;rw[Zac Qdj,Qmg]
 kernel_rfl
def pX:jW:=⟨[⟨4,0,0,[]⟩,⟨1,0,0,[(120,120)]⟩,⟨4,1,0,[]⟩,⟨7,0,0,[]⟩],[0]⟩
def pC:jW:=⟨[⟨4,0,0,[]⟩,⟨5,0,0,[]⟩,⟨1,0,0,[(32,32)]⟩,⟨4,1,0,[]⟩,⟨7,0,0,[]⟩],[0]⟩
theorem Qt8:bI [[nX]]=((pX.code,pX.ah),0,0):=by
 unfold bI;rw[aq];unfold Co;rw[Zaa (by decide),lf,Zaa (by rw[Qme];decide)];unfold nV;rw[aq,Qmf]
 kernel_rfl
theorem Qmh:bI [[nC,nB,nS]]=((pC.code,pC.ah),0,0):=by
 unfold bI;rw[aq];unfold Co;rw[Zaa (by decide),lf,Zaa (by rw[Qdj];decide)];unfold nV;rw[aq,Qmg]
 kernel_rfl
def ON:b7:=⟨[⟨[97],[120]⟩],[94,32]⟩
theorem QaW:aW ON=⟨[⟨[97],0⟩],[[nX]],0,0⟩:=by
 unfold aW;rw[aq];show lg [⟨[97],[120]⟩] 0 [] []=_
 rw[lg,Zaa (by decide),Zaa (by decide)];simp only[Qt1,Qt6];rfl
theorem Jx:bL ON=⟨pX.code,pX.ah,pC.code,pC.ah,0,0⟩:=by
 have e:bL ON=iP ON:=aq _;have a:ON.c≠[]:=nofun
 have b:bT ON.c=([nC,nB,nS],0,0):=Qmd;grind [N9,ON,QaW,Qt8,Qt7,Qmh]
section
noncomputable def zB (s:gO) (c:Int):gO:=⟨(rG s.d c).1,mX s.v (rG s.d c).2⟩
noncomputable def zA (s:gO):gO:=⟨L2,Fj s.v.p⟩
noncomputable def Qf7 (f:aJ) (y:aA) (c:Int):gO:=if jQ y c=1 then zB y.alt c else if jQ y c=2 then(match f with
 | .o=>if Gf y=true then zA y.alt else zA (zB y.alt 10)
 | .c=>zA (zB y.alt 10)
 | _=>zA y.alt) else if jQ y c=3\/jQ y c=5 then zA y.alt else y.alt
noncomputable def Qf8 (y:aA) (c:Int):gO:=if jQ y c=1 then zB y.ba c else if jQ y c=2\/jQ y c=3\/jQ y c=5 then zA y.ba else y.ba
noncomputable def Qf9 (f:aJ) (y:aA) (c:Int):gO:=match f with
 | .o=>if jQ y c=1 then zB y.cur c else if jQ y c=2 then(if Gf y=true then zB y.cur 10 else zB y.alt 10) else y.cur
 | _=>zB y.alt 10
noncomputable def LQ (e:Int) (l:List fP):List Found:=dQ e l l.length
noncomputable def Qga (f:aJ) (y:aA) (c:Int):List Found:=if jQ y c=2 then(match f with
 | .n=>LQ y.line (gj y.alt)
 | .o=>if Gf y=true then[] else LQ y.event y.ends
 | _=>[]) else if jQ y c=3 then(match f with
 | .o=>LQ y.event y.ends++[zj y]
 | _=>[zj y]) else[]
noncomputable def zBy (f:aJ) (y:aA) (c:Int):aA:=⟨y.ru,y.pos+1,bg y c,jR f y c,lH f y c,cS y c,mb f y c,Qf7 f y c,Qf8 y c,Qf9 f y c⟩
noncomputable def FP:aJ->aA->By->aJ×aA×List Found
 | f,y,[]=>(f,y,[])
 | f,y,c::l=>match FP (oC f y (c.toNat:Int)) (zBy f y (c.toNat:Int)) l with
  | (g,z,o)=>(g,z,Qga f y (c.toNat:Int)++o)
theorem Wu (s:gO) (c:Int):iL s c=zB s c:=aq _
theorem Qdk (s:gO):bA s=zA s:=aq _
theorem Qgb (f:aJ) (y:aA) (c:Int):jq f y c=zBy f y c:=by
 have h1:ir f y c=Qf7 f y c:=by
  unfold ir Qf7 Fw;grind [aq,Qdk,Wu]
 have a:gV y c=Qf8 y c:=by
  grind [gV,Qf8,aq,Qdk,Wu]
 have b:km f y c=Qf9 f y c:=by
  unfold km Qf9;grind [aq,Wu]
 grind [jq,zBy]
theorem Wv (e:Int) (l:List fP):fo e l=LQ e l:=aq _
theorem QaX (f:aJ) (y:aA) (c:Int):eQ f y c=Qga f y c:=by
 unfold eQ Qga qH;grind [aq,Wv]
theorem FQ (f:aJ) (y:aA) (c:UInt8) (l:By):∀k,bb f y (c::l) (k+1)=((bb (oC f y (c.toNat:Int)) (jq f y (c.toNat:Int)) l k).1,(bb (oC f y (c.toNat:Int)) (jq f y (c.toNat:Int)) l k).2.1,eQ f y (c.toNat:Int)++(bb (oC f y (c.toNat:Int)) (jq f y (c.toNat:Int)) l k).2.2)
 | 0=>by
  show(oC f y (c.toNat:Int),jq f y (c.toNat:Int),[]++eQ f y (c.toNat:Int))=(oC f y (c.toNat:Int),jq f y (c.toNat:Int),eQ f y (c.toNat:Int)++[])
  grind
 | k+1=>by
  rw[bb,FQ f y c l k];show(_,_,(_++_)++_)=(_,_,_++(_++_))
  rw[ZaD];rfl
theorem vW:∀(b:By) (f:aJ) (y:aA),bb f y b b.length=FP f y b
 | [],f,y=>rfl
 | c::l,f,y=>by
  rw[Zae,FQ,vW l,FP,Qgb,QaX]
end
noncomputable def ru0:nW:=⟨ON,pX,pC,[⟨[97],0⟩]⟩
def tS:cg=ru0:=by
 unfold cg;rw[aq,show srS=ON from aq _,Jx,QaW];rfl
noncomputable def y0:aA:=⟨ru0,0,0,0,0,false,[],⟨L2,Fj pX⟩,⟨L2,Fj pC⟩,gM⟩
def Qua:sM cg=y0:=by
 rw[tS];unfold sM;rw[show bM ru0.p=_ from aq _,show bM ru0.q=_ from aq _];rfl
def Qmj:cx .c (sM cg) W4=FP .c y0 W4:=by rw[gZ,vW,Qua]
def opX:oD .c (sM cg) W4:=by
 rfl
def Quc:(cx .c (sM cg) W4).2.2=[]:=by
 rw[Qmj];rfl
noncomputable def x0:aA:=(FP .c y0 W4).2.1
def Qgc:b_=x0:=by
 unfold b_;rw[aq,Qmj];rfl
noncomputable def x1:aA:=iu ru0 x0
def Qdl:iu cg b_=x1:=by rw[tS,Qgc];rfl
def Qmk:cx .o (iu cg b_) yQ=FP .o x1 yQ:=by rw[gZ,vW,Qdl]
def opY:oD .o (iu cg b_) yQ:=by
 show isO (bb .o (iu cg b_) yQ yQ.length).1
 rw[vW,Qdl]
 kernel_rfl
noncomputable def y1:aA:=(FP .o x1 yQ).2.1
noncomputable def o1:List Found:=(FP .o x1 yQ).2.2
def Qgd:gC=y1:=by
 unfold gC;rw[aq,Qmk];rfl
def Qge:srO=o1:=by
 unfold srO;rw[aq,Qmk];rfl
def Qml:y1.pos=9/\y1.line=9/\y1.event=7/\y1.size=1:=by
 refine⟨?_,?_,?_,?_⟩<;>kernel_rfl
def Qmm:∃x,o1=[x]/\x.pos=0/\x.c0=1/\x.c1=2:=by
 refine⟨⟨1,0,0,1,2,-1,-1,-1,-1,-1,-1,-1,-1⟩,by kernel_rfl,rfl,rfl,rfl⟩
def Ww:l8 ON:=by unfold l8;rw[Jx];rfl
def FT:qV cg.p/\OK cg.q/\qV cg.q/\cg.q.ah.length=1:=by
 obtain⟨h1,b,a⟩:=LM (y:=ON) (by decide) Ww;obtain⟨a,c⟩:=a nofun
 rw[Jx] at h1 b a c;rw[tS];exact⟨h1,b,a,c⟩
def Wx:hU (cg,true):=⟨FT.1,FT.2.1,λ_=>FT.2.2.1,by rw[tS];rfl⟩
def vP.Q {s:gO} {N:Int} (h:vP s N):scQ s:=⟨⟨h.1,by have:=h.2.1;omega⟩,h.2.2.2.1.2⟩
def Qmn:pz .c (sM cg):=Qdh (.inr rfl) FT.1 λ_=>FT.2.2
def FU {f:aJ} {y:aA} {b:By} (h:oD f y b):(cx f y b).1=.o:=by
 have h:isO (bb f y b b.length).1:=h;rw[gZ];generalize (bb f y b b.length).1=g at h;cases g<;>first | rfl | cases h
def QaY:pz .o (iu cg b_)/\(iu cg b_).pos=5:=by
 obtain⟨i1,i2,_⟩:=rk (b:=W4) (.inr (.inl rfl)) Qmn (by show(0:Int)+5<=_;omega) _ (Zah _);rw[<-gZ] at i1 i2;rw[FU opX] at i1;have e:b_=(cx .c (sM cg) W4).2.1:=aq _;rw[<-e] at i1 i2;exact⟨i1,i2⟩
theorem Qud:pz .o gC:=by
 obtain⟨i1,i2,_⟩:=rk (b:=yQ) (.inr (.inr rfl)) QaY.1 (by rw[QaY.2];show(5:Int)+4<=_;omega) _ (Zah _);rw[<-gZ] at i1 i2;rw[FU opY] at i1;grind [gC,aq]
def Qgf (r:nW) (p l:Int) (g:Bool) (e z:Int) (n:List fP) (c a d:gO):ye ⟨r,⟨p,l,g,true,e,z,n⟩,c,a,d⟩=e:=Zac rfl
theorem Qmo (h1:Ok tL) (i:Ok dc):Ok Wd:=okZ (V:=Qdi) [tL,yd,Ρ,fdC,U9,Lq,Qaa] Tryz.f6 (λ_=>srC 1) ⟨h1,IY i,Qlo,Qc0,Qc1,QfS,Qlp i⟩ λ(y:Unit) _=>by
 have j:(⟨[⟨[97],[120]⟩],[94,32]⟩:b7)=ON:=rfl;have l:(⟨cg,0,0,0,0,false,[],bM cg.p,bM cg.q,gM⟩:aA)=sM cg:=rfl;have eA:[b8 97,b8 120,b8 10,b8 32,b8 98]=W4:=rfl;have k:[b8 120,b8 10,b8 99,b8 10]=yQ:=rfl;have n:(⟨cg,b_.pos,b_.line,b_.event,b_.size,b_.aE,b_.ends,b_.alt,b_.ba,b_.cur⟩:aA)=iu cg b_:=rfl;have m:lk (cx .o (iu cg b_) yQ).2.2=srO:=rfl;have r:rp cg:=by rw[tS];rfl
 unfold Qdi;simp only[dq,cD,cb,cm,ZaZ,ZaY,ZaX,j,l,eA,k,n,m,Ww,r,opX,Quc,Zb0,ZbV];obtain⟨x,s,p0,p1,p2⟩:=Qmm;have hO:srO=[x]:=Qge.trans s;obtain⟨e,f,g,h⟩:=Qml;rw[<-Qgd] at e f g h;have g0:gt (Found.mk 0 0 0 0 0 0 0 0 0 0 0 0 0) [x] 0=x:=rfl;have t:∀a:Int,az a a:=λa=>gg.2 rfl
 have v:ab [x]=1:=rfl;have w:ax 0 1:=rfl;have u:ab ([]:List Found)=0:=rfl;simp only[Qgf,hO,g0,p0,p1,p2,e,f,g,h,t,v,w,u,ZcF,Zb0,ZaE,ZbV,ZaX,Zai,Zal];obtain⟨i1,i2,i3,i4⟩:=Qud;have d:=tS;have rx:b_=(cx .c (sM cg) W4).2.1:=aq _;have b:gC=(cx .o (iu cg b_) yQ).2.1:=aq _;refine⟨⟨⟨by show 1<=1000;omega,Ww.symm⟩,by rw[d];rfl,by rw[d];rfl,by rw[Jx,d];rfl,by rw[Jx,d];rfl,by rw[Jx,d];rfl,by rw[Jx,d];rfl,by rw[QaW,d];rfl,by rw[QaW,d];rfl⟩,Wx,⟨⟨⟨Qmn,by show 5<=1000000;omega,by show(0:Int)+5<=100000000;omega⟩,opX.symm⟩,by rw[rx],by rw[rx],by rw[rx],by rw[rx],by rw[rx],by rw[rx],br (by rw[<-rx]) (br (by rw[<-rx]) (br (by rw[<-rx]) trivial))⟩,⟨⟨⟨QaY.1,by show 4<=1000000;omega,by rw[show(iu cg b_,yQ).1.pos=5 from QaY.2];show(5:Int)+4<=100000000;omega⟩,opY⟩,?_,by rw[<-b,e],by rw[<-b,f],by rw[<-b],by rw[<-b,g],by rw[<-b,h],by rw[<-b],br (by rw[<-b]) (br (by rw[<-b]) (br (by rw[<-b]) trivial))⟩,⟨i1.Q,(i2 rfl).1.Q,λ_=>⟨(i3 rfl).1.Q,(i3 rfl).2.1⟩⟩,Wx⟩;grind [aq]
end
end sx
end Go.Proofs.YtadfknojfbmjgaaGreat
