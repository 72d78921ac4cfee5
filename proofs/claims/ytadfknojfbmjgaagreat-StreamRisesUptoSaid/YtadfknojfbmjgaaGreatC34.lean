/- StreamRises: a part of the proof. -/
import Derived.Test.YtadfknojfbmjgaaGreatC33
import Derived.Deep.RegionHeld3
import Derived.Test.YtadfknojfbmjgaaGreatC28
import Derived.WalkKit
import Derived.ProofKit
set_option linter.all false
namespace Go.Proofs.YtadfknojfbmjgaaGreat
namespace sx
open Go Go.RowKit cls syn sl
set_option maxRecDepth 100000
theorem WT {w:World} {g n c k:Nat} {ld lr:List E8} {x:E8} (h:qC w (.slice (some ⟨g,0,none⟩) n c) (ld++x::lr)) (b:(ld++x::lr).length=n) (hk:ld.length=k):
  (∀j u,j<8->x.1[j]?=some u->w.cell? ⟨g,k*8+j,none⟩=some u)/\(∀o,w.frozen? ⟨g,o,none⟩=false)/\g<w.heap.size:=by
 subst b;subst hk;refine⟨λj u a e=>(h.cellAt rfl JC (i:=ld.length) (x:=x) (by simp) a e).1,λo=>World.ownsRow.frozenAt h o,?_⟩;obtain⟨f,d,e,_,l,_⟩:=h.form (by simp);grind
noncomputable def F6 (l:List Tree):List (AV D.E):=l.flatMap λt:Tree=>D.aX 15 t
structure SL (M:Pm D) (w:World) (ks:List Tree) (G:List Nat) (kv:Value) (k:Nat) (wr:World) (Mk:Pm D) (ld lr:List E8) (Gr:List Nat):Prop where
 own:qC wr kv (ld++lr)
 len:ld.length=k
 rows:LR Mk (F6 ((cK ks).take k)) (flat e8 ld)
 kids:KA Mk wr (ks.drop k) lr Gr
 sub:∃Gd,G=Gd++Gr
 un:∀c∈gW kv++Gr,∀o,Mk.sg c o=none
 un2:∀o,Mk.sg (w.heap.size+1) o=none
 qs:Qs (gW kv++G) M w Mk wr
abbrev Bg (w:World) (b o:Nat) (a c d v3 e v5 f g:Value):World:=(((((((w.setCell ⟨b,o,none⟩ a).setCell ⟨b,o+1,none⟩ c).setCell ⟨b,o+2,none⟩ d).setCell ⟨b,o+3,none⟩ v3).setCell ⟨b,o+4,none⟩ e).setCell ⟨b,o+5,none⟩ v5).setCell ⟨b,o+6,none⟩ f).setCell ⟨b,o+7,none⟩ g
variable {a c d Z e Y i g:Value} {w:World} {b o k:Nat} {M:Pm D} {X W:List E8}
def l3 (h:k≠b):(Bg w b o a c d Z e Y i g).heap[k]?=w.heap[k]?:=by
 unfold Bg;rw[j_ h,j_ h,j_ h,j_ h,j_ h,j_ h,j_ h,j_ h]
theorem Qbg {j:Nat} {x y:E8} (h:qC w (.slice (some ⟨b,0,none⟩) o k) (X++x::W)) (p:(X++x::W).length=o) (hk:X.length=j) (q:y.1=[a,c,d,Z,e,Y,i,g]):
  qC (Bg w b (j*8) a c d Z e Y i g) (.slice (some ⟨b,0,none⟩) o k) (X++y::W):=by
 subst p;have s:=(World.ownsRow.stored (World.ownsRow.stored (World.ownsRow.stored (World.ownsRow.stored (World.ownsRow.stored (World.ownsRow.stored (World.ownsRow.stored (World.ownsRow.stored h (j*8) a).1 (j*8+1) c).1 (j*8+2) d).1 (j*8+3) Z).1 (j*8+4) e).1 (j*8+5) Y).1 (j*8+6) i).1 (j*8+7) g).1;have f:((((((((flat e8 (X++x::W)).set (j*8) a).set (j*8+1) c).set (j*8+2) d).set (j*8+3) Z).set (j*8+4) e).set (j*8+5) Y).set (j*8+6) i).set (j*8+7) g=flat e8 (X++y::W):=by
  obtain⟨l,hl,_⟩:=x;obtain⟨a0,l,rfl⟩:=ZaB (show l.length=7+1 from hl);obtain⟨r,l,rfl⟩:=ZaB (show l.length=6+1 by simpa using hl);obtain⟨a2,l,rfl⟩:=ZaB (show l.length=5+1 by simpa using hl);obtain⟨a3,l,rfl⟩:=ZaB (show l.length=4+1 by simpa using hl);obtain⟨a4,l,rfl⟩:=ZaB (show l.length=3+1 by simpa using hl);obtain⟨a5,l,rfl⟩:=ZaB (show l.length=2+1 by simpa using hl);obtain⟨t,l,rfl⟩:=ZaB (show l.length=1+1 by simpa using hl);obtain⟨u,l,rfl⟩:=ZaB (show l.length=0+1 by simpa using hl);obtain rfl:l=[]:=by simpa using hl
  have n:(flat e8 X).length=j*8:=by rw[nf JC,hk]
  have m:∀(z:E8),flat e8 (z::W)=z.1++flat e8 W:=λz=>rfl
  rw[jS,jS,m,m,q,<-n];simp_all
 grind [j9]
theorem jT:Below b w (Bg w b o a c d Z e Y i g):=by
 unfold Bg;have k:∀(W:World) (f:Nat) (v:Value),Below b w W->Below b w (W.setCell ⟨b,f,none⟩ v):=λW f v h=>h.setCell (Zah _) v
 grind [Below.refl]
def Df {l:List (AV D.E)} {A:Array Value} (h:VR M (.agg l) (.agg A)):LR M l A.toList:=by
 cases h with | agg h1 a=>exact⟨h1,a⟩
theorem JG (l:List Tree):cK l=l.map fb:=by
 induction l with
 | nil=>rw[cK];rfl
 | cons t l a=>rw[cK,a];rfl
theorem SL.round {v:List Tree} {G:List Nat} {I:Nat} {wr:World} {C s:Pm D} {j m:List Nat} {x1:E8} {O:World} {T:Tree}
  (h:SL M w v G (.slice (some ⟨b,0,none⟩) o k) I wr C X (x1::W) (j++m)) (S:KA C wr (v.drop (I+1)) W m) (hk:v[I]?=some T) (v3:(X++x1::W).length=o)
  (z:(gW (.slice (some ⟨b,0,none⟩) o k)++G).Nodup) (V:∀N∈gW (.slice (some ⟨b,0,none⟩) o k)++G,D.ng<=N/\N<w.heap.size) (hs:w.heap.size+2<=wr.heap.size)
  (t:Qs j C wr s O) (hv:VR s (.agg (D.aX 15 (fb T))) (.agg #[a,c,d,Z,e,Y,i,g])) (h1:∀u∈[a,c,d,Z,e,Y,i,g],u.oneCell'):
  SL M w v G (.slice (some ⟨b,0,none⟩) o k) (I+1) (Bg O b (I*8) a c d Z e Y i g) s (X++[⟨[a,c,d,Z,e,Y,i,g],rfl,h1⟩]) W m:=by
 have H:gW (.slice (some ⟨b,0,none⟩) o k)=[b]:=rfl;obtain⟨lr,Q⟩:=h.sub;rw[H] at z V;have r:=h.un;rw[H] at r;have J:=List.nodup_cons.1 (show(b::G).Nodup from z);have l:∀N∈j++m,N∈G:=λN H=>by rw[Q];exact ZaC _ H
 have y:b ∉ j:=λK=>J.1 (l b (Zay _ K))
 have P:(j++m).Nodup:=by rw[Q] at J;exact(ZbR.1 J.2).2.1
 have p:∀N∈m,N ∉ j/\N≠b:=λN H=>⟨λK=>(ZbR.1 P).2.2 N K N H rfl,λK=>J.1 (by rw[<-K];exact l N (ZaC _ H))⟩
 have q:∀N∈[b]++(j++m),D.ng<=N/\N<w.heap.size:=λN H=>V N ((Zax.1 H).elim (λh=>Zay _ h) λh=>ZaC _ (l N h))
 have R:=q b (by simp);have L:∀N,N<wr.heap.size->N ∉ j->(∀n,C.sg N n=none)->∀n,s.sg N n=none:=λN h1 v5 E n=>by
  cases K:s.sg N n with
  | none=>rfl
  | some u=>
   rcases t.sb N n (by rw[K];simp) with U | U | U
   ·grind
   ·omega
   ·grind
 have B:qC O (.slice (some ⟨b,0,none⟩) o k) (X++x1::W):=ni h.own λN f hl=>t.aH N hl (by rw[H,ZaI] at f;rw[f];exact y)
 have x:=L b ω y λn=>r b (by simp) n
 have A:Qs ([b]++G) M w s O:=(h.qs).trans t λN H=>.inl (ZaC _ (l N (Zay _ H)))
 refine⟨?_,by simp[h.len],?_,qi t.le _ _ _ S λN H hl=>(l3 (p N H).2).trans (t.aH N hl (p N H).1),⟨lr++j,by rw[Q,ZaD]⟩,λN f=>?_,L _ ω (λK=>by have:=(q _ (ZaC _ (Zay _ K))).2;omega) h.un2,?_⟩
 ·rw[ZaD];exact Qbg B v3 h.len rfl
 ·have ld:F6 ((cK v).take (I+1))=F6 ((cK v).take I)++D.aX 15 (fb T):=by
   rw[Zcr,JG,Zbk,hk];simp[F6]
  rw[ld,jS];refine(h.rows.mono t.le).app ?_;obtain⟨j1,j2⟩:=Df hv;exact⟨j1,j2⟩
 ·rw[H] at f;have v5:=q N ((Zax.1 f).elim (λh=>Zay _ h) λh=>ZaC _ (ZaC _ h));rcases Zax.1 f with E | E
  ·grind
  ·exact L N ω (p N E).1 λn=>r N (by simp[E]) n
 ·refine A.trans (Qs.QmH (F:=[b]) A.gn jT.size jT.os jT.tape jT.output (λN _ H=>l3 (by simpa using H)) λN H=>by rw[ZaI.1 H];exact⟨R.1,x⟩) λN H=>.inl (Zay _ H)
theorem F7 {T:Tree} (h:VR M (.agg (D.aX 15 T)) a):∃(e:Option Addr) (g f:Nat) (i:Option Addr) (un j:Nat),a=.agg #[.int .i64 T.op,.slice e g f,.int .i64 T.mn,.int .i64 T.mx,.bool T.lz,.int .i64 T.cap,.int .i64 T.nk,.slice i un j]:=by
 cases h with | @agg _ A h1 d=>?_
 obtain⟨l⟩:=A;have h:LR M (D.aX 15 T) l:=⟨h1,d⟩;cases T;obtain⟨k,l,rfl,a0,h⟩:=h.bX;obtain⟨m,l,rfl,v,h⟩:=h.bX;obtain⟨n,l,rfl,a2,h⟩:=h.bX;obtain⟨v3,l,rfl,a3,h⟩:=h.bX;obtain⟨o,l,rfl,a4,h⟩:=h.bX;obtain⟨v5,l,rfl,a5,h⟩:=h.bX;obtain⟨p,l,rfl,b,h⟩:=h.bX;obtain⟨q,l,rfl,c,h⟩:=h.bX;obtain rfl:=h.oq;obtain rfl:=qW a0;obtain⟨_,_,_,rfl⟩:=A_ v;obtain rfl:=qW a2;obtain rfl:=qW a3;obtain rfl:=v8 a4;obtain rfl:=qW a5;obtain rfl:=qW b;obtain⟨_,_,_,rfl⟩:=A_ c;grind
abbrev z8:Array Value:=#[.int .i64 0,.slice none 0 0,.int .i64 0,.int .i64 0,.bool false,.int .i64 0,.int .i64 0,.slice none 0 0]
theorem wb {F:List Nat} {M a:Pm D} {w j:World} {T:Tree} {d e f v3 g v5 h i:Value} (k:Qs F M w a j) (hz:j.heap[w.heap.size+1]?=some (.cells z8 147 (0,0))) (n:∀o,a.sg (w.heap.size+1) o=none) (m:D.ng<=w.heap.size)
  (l:VR a (.agg (D.aX 15 T)) (.agg #[d,e,f,v3,g,v5,h,i])):
  ∃W,W=(((((((j.setCell ⟨w.heap.size+1,0,none⟩ d).setCell ⟨w.heap.size+1,1,none⟩ e).setCell ⟨w.heap.size+1,2,none⟩ f).setCell ⟨w.heap.size+1,3,none⟩ v3).setCell ⟨w.heap.size+1,4,none⟩ g).setCell ⟨w.heap.size+1,5,none⟩ v5).setCell ⟨w.heap.size+1,6,none⟩ h).setCell ⟨w.heap.size+1,7,none⟩ i/\Qs F M w a W/\
   (loadVar 147 ⟨w.heap.size+1,0,none⟩).run Tryz.prog W=.ok (.agg #[d,e,f,v3,g,v5,h,i]) W:=by
 refine⟨_,rfl,k.trans (Qs.QmH (F:=[w.heap.size+1]) k.gn lx.size lx.os lx.tape lx.output (λb _ c=>yz (by simpa using c)) λb c=>?_) λb c=>.inr (by rw[ZaI.1 c];omega),?_⟩
 ·grind
 ·exact run_loadVar_row (P:=Tryz.prog) _ (w.heap.size+1) _ 147 _ _ _ (Ba hz rfl) Tryz.underlying147 rfl (by kernel_rfl)
theorem yK {f:FuncId} {zy:List (AV D.E)->St D.E->C Tree} {pre:Tree->Prop} {res:Tree->Tree} (h:Ok (bZ f Tree zy pre (λy=>[.agg (D.aX 15 y)]) λy=>.agg (D.aX 15 (res y)))) {y:Tree} (q:pre y) {M:Pm D} {w:World} {A:Array Value} {a:Nat} (o:ey M H0 w) (p:TF M 0)
  (n:VR M (.agg (D.aX 15 y)) (.agg A)) (hz:w.heap[a]?=some (.cells z8 147 (0,0))):
  Calls Tryz.prog f #[.agg A] w λe b=>∃(l:Pm D) (c:Option Addr) (g d:Nat) (i:Option Addr) (un k:Nat),
   e=.returned (.agg #[.int .i64 (res y).op,.slice c g d,.int .i64 (res y).mn,.int .i64 (res y).mx,.bool (res y).lz,.int .i64 (res y).cap,.int .i64 (res y).nk,.slice i un k])/\
   VR l (.agg (D.aX 15 (res y))) (.agg #[.int .i64 (res y).op,.slice c g d,.int .i64 (res y).mn,.int .i64 (res y).mx,.bool (res y).lz,.int .i64 (res y).cap,.int .i64 (res y).nk,.slice i un k])/\
   Qs [] M w l b/\b.heap[a]?=some (.cells z8 147 (0,0))/\(∀j,b.cell? ⟨a,j,none⟩=z8[j]?)/\∀j,b.frozen? ⟨a,j,none⟩=false:=by
 refine h.2 y q M #[.agg A] w (.cons n .nil) o p _ λm v u s hs=>?_
 obtain⟨c,g,d,i,un,k,rfl⟩:=F7 s;have r:Qs [] M w m u:=Qs.OI hs;have t:=(r.aH a (CP hz) (by simp)).trans hz;grind [mg,LY]
set_option maxHeartbeats 4000000 in
theorem Qgm (g1:Ok Jd) (g2:Ok Jg) (g3:Ok Jh):∀(n:Nat) (t:Tree) (x:E8) (F:List Nat) (M:Pm D) (w:World),(ay t).length<=n->kz t->dG t->TA M w t x F->F.Nodup->(∀c∈F,D.ng<=c/\∀o,M.sg c o=none)->ey M H0 w->TF M 0->
  Calls Tryz.prog 59 #[.agg x.1.toArray] w λe w'=>∃M' v',e=.returned v'/\VR M' (.agg (D.aX 15 (fb t))) v'/\Qs F M w M' w':=by
 intro n
 induction n with
 | zero=>
  intro t x F M w h
  cases t
  grind [ay]
 | succ n ih=>
  intro t x F M w hn hw ht E C hF hS hT
  obtain⟨op,r,mn,mx,lz,cap,nk,a⟩:=t
  have H:=hw
  rw[kz] at hw
  obtain⟨_,rfl,hks⟩:=hw
  replace H:=QmI H ht
  rw[ay] at hn
  rw[TA] at E
  obtain⟨vr,kv,l,G,hx,hvr,Y,ho,rfl,q⟩:=E
  obtain⟨ra,rn,rc,rfl⟩:=A_ hvr
  have hll:=JD q
  obtain⟨S,L,rfl,hrd,_⟩:=ho.rd
  rw[hll] at ho hF C hx ⊢
  rw[hx]
  have hL:a.length<=1000000:=ht.kids.len
  have T:Hid (∀b∈gW (.slice S a.length L)++G,D.ng<=b/\b<w.heap.size):=Lib.hid λb hb=>⟨(hF b hb).1,(Zax.1 hb).elim (v_ ho b) (WJ _ _ _ q b)⟩
  have H1:=Lib.hid hx
  have H2:=Lib.hid ho
  have H3:=Lib.hid q
  have H4:=Lib.hid C
  have H5:=Lib.hid hF
  have H6:=Lib.hid H
  have H7:=Lib.hid ht
  have H8:=Lib.hid hll
  clear hx ho q C hF H ht hll hrd
  go_enter Tryz.func59,Tryz.ntmps59
  go_wp2_with fail
  have hzs:w.heap.size<w.heap.size+2:=ω
  go_loopg [3] a.length (λg i wr=>∃(k:Nat) (ld lr:List E8) (Gr:List Nat) (Mk:Pm D),k<=a.length/\g=a.length-k/\i=.int .i64 k/\
   wr.heap[w.heap.size]?=some (.cells #[.int .i64 op,.slice ra rn rc,.int .i64 mn,.int .i64 mx,.bool lz,.int .i64 cap,.int .i64 a.length,.slice S a.length L] 147 (0,0))/\
   wr.heap[w.heap.size+1]?=some (.cells #[.int .i64 0,.slice none 0 0,.int .i64 0,.int .i64 0,.bool false,.int .i64 0,.int .i64 0,.slice none 0 0] 147 (0,0))/\
   w.heap.size+2<=wr.heap.size/\SL M w a G (.slice S a.length L) k wr Mk ld lr Gr)
  case atStart=>
   refine⟨0,[],l,G,M,ω,rfl,rfl,?_,?_,by simp,?_⟩
   ·grind [Below.heap_alloc,heap_alloc_new]
   ·exact FZ (by simp) _
   ·have hB:=((Below.refl w.heap.size w).alloc (Zah _) (.cells #[.int .i64 op,.slice ra rn rc,.int .i64 mn,.int .i64 mx,.bool lz,.int .i64 cap,.int .i64 a.length,.slice S a.length L] 147)).alloc (by simp) (.cells #[.int .i64 0,.slice none 0 0,.int .i64 0,.int .i64 0,.bool false,.int .i64 0,.int .i64 0,.slice none 0 0] 147)
    refine⟨ni H2.out λb _ hl=>hB.block b hl,rfl,⟨rfl,λi v v' e=>(by simp[F6] at e)⟩,qi (lZ M) _ _ _ H3.out λb _ hl=>hB.block b hl,⟨[],rfl⟩,λc p=>(H5.out c p).2,λo=>?_,Qs.OI (tq hS hB 0)⟩
    cases e:M.sg (w.heap.size+1) o with
    | none=>rfl
    | some u=>have:=hS.slt e;omega
  case round=>
   obtain⟨k,ld,lr,Gr,Mk,hk,rfl,rfl,X,hz,cI,rB⟩:=hrel
   have d7:wr.cell? ⟨w.heap.size,7,none⟩=some (.slice S a.length L):=mg X 7
   have d0:wr.cell? ⟨w.heap.size,0,none⟩=some (.int .i64 op):=mg X 0
   have H9:=Lib.hid X
   have B:=Lib.hid hz
   have d:=Lib.hid rB
   have H12:=Lib.hid hks
   clear X hz rB hks
   by_cases Z:k<a.length
   ·obtain⟨f,P⟩:∃f,a[k]?=some f:=⟨_,Zaf Z⟩
    have hdk:a.drop k=f::a.drop (k+1):=by rw[Zaq Z,(Zam.1 P).2]
    have q:=d.out.kids
    rw[hdk,KA] at q
    obtain⟨x1,lr',F1,F2,rfl,rfl,E,q⟩:=q
    obtain⟨g,kc',ek,_,hgl,_⟩:=d.out.own.form (by simp)
    have s:(ld++x1::lr').length=a.length:=by
     grind
    rw[s] at ek
    cases ek
    obtain⟨qa,qn,qc,pa,pn,pc,ex⟩:=yy E
    have hgw:g<w.heap.size:=v_ H2.out g (ZaI.2 rfl)
    have hgn:g≠w.heap.size:=ω
    have hgm:w.heap.size≠g:=ω
    obtain⟨m,hfz,_⟩:=WT d.out.own s d.out.len
    have hcall:Calls Tryz.prog 59 #[.agg #[.int .i64 f.op,.slice qa qn qc,.int .i64 f.mn,.int .i64 f.mx,.bool f.lz,.int .i64 f.cap,.int .i64 f.nk,.slice pa pn pc]] wr.drew λe A=>∃(M1:Pm D) (sa:Option Addr) (sn sc:Nat) (ua:Option Addr) (un uc:Nat),
      e=.returned (.agg #[.int .i64 (fb f).op,.slice sa sn sc,.int .i64 (fb f).mn,.int .i64 (fb f).mx,.bool (fb f).lz,.int .i64 (fb f).cap,.int .i64 (fb f).nk,.slice ua un uc])/\
      VR M1 (.agg (D.aX 15 (fb f))) (.agg #[.int .i64 (fb f).op,.slice sa sn sc,.int .i64 (fb f).mn,.int .i64 (fb f).mx,.bool (fb f).lz,.int .i64 (fb f).cap,.int .i64 (fb f).nk,.slice ua un uc])/\
      Qs F1 Mk wr M1 A/\A.cell? ⟨w.heap.size,7,none⟩=some (.slice (some ⟨g,0,none⟩) a.length L)/\(A.cell? ⟨g,k*8,none⟩=some (.int .i64 f.op)/\A.cell? ⟨g,k*8+1,none⟩=some (.slice qa qn qc)/\A.cell? ⟨g,k*8+2,none⟩=some (.int .i64 f.mn)/\A.cell? ⟨g,k*8+3,none⟩=some (.int .i64 f.mx)/\A.cell? ⟨g,k*8+4,none⟩=some (.bool f.lz)/\A.cell? ⟨g,k*8+5,none⟩=some (.int .i64 f.cap)/\A.cell? ⟨g,k*8+6,none⟩=some (.int .i64 f.nk)/\A.cell? ⟨g,k*8+7,none⟩=some (.slice pa pn pc))/\(∀o,A.frozen? ⟨g,o,none⟩=false)/\g<A.heap.size:=by
     have e1:(#[.int .i64 f.op,.slice qa qn qc,.int .i64 f.mn,.int .i64 f.mx,.bool f.lz,.int .i64 f.cap,.int .i64 f.nk,.slice pa pn pc]:Array Value)=x1.1.toArray:=by rw[ex]
     have hfl:au a=au (a.take k)++(ay f++au (a.drop (k+1))):=by rw[<-cU,<-hdk,<-ct,ZaO]
     have htr:dG f:=by
      have:=H7.out.kids.get Z
      rwa [show((Tree.mk op r mn mx lz cap (a.length:Int) a).kids.getD k bn)=f by show a.getD k bn=f;rw[bk Z];exact(Zam.1 P).2] at this
     obtain⟨Gd,U⟩:=d.out.sub
     have C:=H4.out
     rw[U] at C
     have hnF:=(ZbR.1 (ZbR.1 (ZbR.1 C).2.1).2.1).1
     have hgF:g ∉ F1:=λe=>(ZbR.1 C).2.2 g (ZaI.2 rfl) g (ZaC _ (Zay _ e)) rfl
     have hin1:∀c∈F1,D.ng<=c/\c<w.heap.size:=λc p=>T.out c (ZaC _ (by rw[U];exact ZaC _ (Zay _ p)))
     rw[e1]
     refine(ih f x1 F1 Mk wr.drew (by rw[Zae,hfl,Zab,Zab] at hn;omega) ((qf a).1 H12.out f (ZaJ P)) htr (vZ (lZ Mk) _ _ _ E λ_ _ _=>rfl) hnF (λc p=>⟨(hin1 c p).1,d.out.un c (ZaC _ (Zay _ p))⟩) (cL.vu d.out.qs.gn 0).gn λb hb=>(d.out.qs.pl b).trans (hT b hb)).mono ?_
     rintro e A ⟨M1,v',rfl,hv,O⟩
     have hq':Qs F1 Mk wr M1 A:=⟨O.le,O.gn,O.pl,O.sb,O.size,O.aH,O.os,O.tape,O.output⟩
     obtain⟨sa,sn,sc,ua,un,uc,rfl⟩:=F7 hv
     have hown:qC A (.slice (some ⟨g,0,none⟩) a.length L) (ld++x1::lr'):=ni d.out.own λb hb' hl=>hq'.aH b hl (by rw[ZaI.1 hb'];exact hgF)
     obtain⟨r1,r2,r3⟩:=WT hown s d.out.len
     refine⟨M1,sa,sn,sc,ua,un,uc,rfl,hv,hq',?_,⟨r1 0 _ ω (by rw[ex];rfl),r1 1 _ ω (by rw[ex];rfl),r1 2 _ ω (by rw[ex];rfl),r1 3 _ ω (by rw[ex];rfl),r1 4 _ ω (by rw[ex];rfl),r1 5 _ ω (by rw[ex];rfl),r1 6 _ ω (by rw[ex];rfl),r1 7 _ ω (by rw[ex];rfl)⟩,r2,r3⟩
     rw[mg ((hq'.aH w.heap.size ω λe=>by have:=(hin1 _ e).2;omega).trans H9.out)]
     rfl
    have c0:=m 0 _ ω (by rw[ex];rfl)
    have c1:=m 1 _ ω (by rw[ex];rfl)
    have c2:=m 2 _ ω (by rw[ex];rfl)
    have c3:=m 3 _ ω (by rw[ex];rfl)
    have c4:=m 4 _ ω (by rw[ex];rfl)
    have c5:=m 5 _ ω (by rw[ex];rfl)
    have c6:=m 6 _ ω (by rw[ex];rfl)
    have c7:=m 7 _ ω (by rw[ex];rfl)
    have b0:(0:Int)<=(k:Int):=ω
    have b1:(k:Int)<(a.length:Int):=ω
    have H13:=Lib.hid q
    have H14:=Lib.hid E
    have H15:=Lib.hid P
    have H16:=Lib.hid ex
    have H17:=Lib.hid s
    clear q E P m hdk s
    simp only[Zbn] at c0
    go_wp2_with fail
    go_region_with
     (first | (go_at_call 59;refine hcall.mono ?_;rintro e A ⟨M1,sa,sn,sc,ua,un,uc,rfl,hv1,hq1,m0,⟨e0,e1,e2,e3,e4,e5,e6,e7⟩,m2,m3⟩))
    all_goals
     go_wp2_with fail
     go_roundg (a.length-(k+1))
     case measure=>omega
     case rel=>
      have hF1:∀c,w.heap.size<=c->c ∉ F1:=λc p e=>by
       obtain⟨Gd,U⟩:=d.out.sub
       have:=(T.out c (ZaC _ (by rw[U];exact ZaC _ (Zay _ e)))).2
       omega
      refine⟨k+1,_,lr',F2,M1,ω,rfl,by go_num,?_,?_,?_,SL.round d.out H13.out H15.out H17.out H4.out T.out cI hq1 hv1 (by simp[Value.oneCell'])⟩
      ·exact(l3 hgm).trans ((hq1.aH _ ω (hF1 _ ω)).trans H9.out)
      ·exact(l3 ω).trans ((hq1.aH _ ω (hF1 _ ω)).trans B.out)
      ·exact Zav cI (Zav hq1.size jT.size)
   ·obtain rfl:k=a.length:=ω
    obtain⟨R,V,QmJ⟩:∃R,Qs (gW (.slice S a.length L)) Mk wr R wr/\VR R (.list 15 (cK a)) (.slice S a.length L):=by
     have hk0:=d.out.kids
     rw[ZbH,KA] at hk0
     obtain⟨rfl,rfl⟩:=hk0
     have ho:=d.out.own
     have hr:=d.out.rows
     rw[Zaw] at ho
     rw[ZaA (by rw[om];exact Zah _)] at hr
     exact WS d.out.qs.gn ho hr (λc p=>d.out.un c (Zay _ p)) (by rw[d.out.len,om])
    have hq2:Qs (gW (.slice S a.length L)++G) M w R wr:=d.out.qs.trans V λc p=>.inl (Zay _ p)
    have hu2:∀o,R.sg (w.heap.size+1) o=none:=λo=>by
     cases e:R.sg (w.heap.size+1) o with
     | none=>rfl
     | some u=>
      rcases V.sb _ o (by rw[e];simp) with K | K | K
      ·exact absurd (d.out.un2 o) K
      ·omega
      ·have:=(T.out _ (Zay _ K)).2;omega
    have hu3:∀(I:Pm D) (w3:World),Qs [] R wr I w3->∀o,I.sg (w.heap.size+1) o=none:=λI w3 O o=>by
     cases e:I.sg (w.heap.size+1) o with
     | none=>rfl
     | some u=>
      rcases O.sb _ o (by rw[e];simp) with K | K | K
      ·exact absurd (hu2 o) K
      ·omega
      ·cases K
    have hT2:TF R 0:=λb hb=>(hq2.pl b).trans (hT b hb)
    have hA:VR R (.agg (D.aX 15 (.mk op r mn mx lz cap (a.length:Int) (cK a)))) (.agg #[.int .i64 op,.slice ra rn rc,.int .i64 mn,.int .i64 mx,.bool lz,.int .i64 cap,.int .i64 a.length,.slice S a.length L]):=by
     simp only[ZaW] at Y
     obtain⟨⟨⟨⟨i0,i2⟩,i3⟩,i5⟩,i6⟩:=Y
     exact VR.Df (.cons (.int i0) (.cons (hvr.mono hq2.le) (.cons (.int i2) (.cons (.int i3) (.cons (.bool lz) (.cons (.int i5) (.cons (.int i6) (.cons QmJ .nil))))))))
    have OH:=hS.ml.1.1
    have hcb:∀j,wr.cell? ⟨w.heap.size,j,none⟩=(#[.int .i64 op,.slice ra rn rc,.int .i64 mn,.int .i64 mx,.bool lz,.int .i64 cap,.int .i64 a.length,.slice S a.length L]:Array Value)[j]?:=λj=>mg H9.out j
    have hcz:∀j,wr.cell? ⟨w.heap.size+1,j,none⟩=z8[j]?:=λj=>mg B.out j
    have hfz:∀j,wr.frozen? ⟨w.heap.size+1,j,none⟩=false:=LY B.out
    have I1:=Lib.hid V
    have I2:=Lib.hid hq2
    have I3:=Lib.hid hu2
    have I4:=Lib.hid hu3
    have I5:=Lib.hid hA
    have I6:=Lib.hid Y
    have I7:=Lib.hid hT2
    clear V hq2 hu2 hu3 hA Y QmJ hT2 hvr d0 d7
    have hD:fb (.mk op r mn mx lz cap (a.length:Int) a)=byD (.mk op r mn mx lz cap (a.length:Int) (cK a)):=by rw[fb]
    have I8:=Lib.hid hD
    clear hD
    by_cases h3:op=3
    ·subst h3
     have p:=yK g1 (H6.out.1 rfl) I2.out.gn I7.out I5.out B.out
     have N:=I8.out.trans ((Zac rfl).trans (aq (Jc _)).symm)
     have J:=Lib.hid N
     clear N
     go_wp2_with (go_at_call 89;go_must (refine p.mono ?_;rintro e w3 ⟨I,sa,sn,sc,ua,un,uc,rfl,z,y,Q,QmK,QmL⟩))
     obtain⟨W,hW,hQ,hl⟩:=wb (I2.out.trans y (λc p=>nomatch p)) Q (I4.out I w3 y) OH z
     rw[<-hW]
     refine bodyPost_ret (qj rfl _ rfl hl) rfl ⟨I,_,rfl,?_,hQ⟩
     rw[J.out]
     exact z
    ·by_cases K:op=4
     ·subst K
      have p:=yK g2 (H6.out.2.1 rfl) I2.out.gn I7.out I5.out B.out
      have N:=I8.out.trans ((Zaa h3).trans ((Zac rfl).trans (aq (Jf _)).symm))
      have J:=Lib.hid N
      clear N
      go_wp2_with (go_at_call 90;go_must (refine p.mono ?_;rintro e w3 ⟨I,sa,sn,sc,ua,un,uc,rfl,z,y,Q,QmK,QmL⟩))
      obtain⟨W,hW,hQ,hl⟩:=wb (I2.out.trans y (λc p=>nomatch p)) Q (I4.out I w3 y) OH z
      rw[<-hW]
      refine bodyPost_ret (qj rfl _ rfl hl) rfl ⟨I,_,rfl,?_,hQ⟩
      rw[J.out]
      exact z
     ·by_cases h5:op=5
      ·subst h5
       have p:=yK g3 (H6.out.2.2 rfl) I2.out.gn I7.out I5.out B.out
       have N:=I8.out.trans (((Zaa h3).trans (Zaa K)).trans ((Zac rfl).trans (aq (cJ _)).symm))
       have J:=Lib.hid N
       clear N
       go_wp2_with (go_at_call 91;go_must (refine p.mono ?_;rintro e w3 ⟨I,sa,sn,sc,ua,un,uc,rfl,z,y,Q,QmK,QmL⟩))
       obtain⟨W,hW,hQ,hl⟩:=wb (I2.out.trans y (λc p=>nomatch p)) Q (I4.out I w3 y) OH z
       rw[<-hW]
       refine bodyPost_ret (qj rfl _ rfl hl) rfl ⟨I,_,rfl,?_,hQ⟩
       rw[J.out]
       exact z
      ·have N:=I8.out.trans (((Zaa h3).trans (Zaa K)).trans (Zaa h5))
       have J:=Lib.hid N
       clear N
       go_wp2_with fail
       obtain⟨W,hW,hQ,hl⟩:=wb I2.out B.out I3.out OH I5.out
       rw[<-hW]
       refine bodyPost_ret (qj rfl _ rfl hl) rfl ⟨R,_,rfl,?_,hQ⟩
       rw[J.out]
       exact I5.out
end sx
namespace sx
open Go Go.RowKit cls syn sl
variable {M:Pm D} {w:World} {y:List Nd}
def Qs.QmM {a:Pm D} {d:World} (h:Qs [] M w a d):cL H0 M w H0 a d 0 0:=
 ⟨h.gn,λb _=>h.pl b,h.le.2,λb o e=>(h.sb b o e).imp_right (λk=>k.elim .inl λk=>(nomatch k)),h.size,λc f _=>h.aH c f (by simp),λ_ _ _ e=>(by cases e),λ_ e=>absurd rfl e,h.os,h.tape,h.output,Zah _⟩
def L7 {f:FuncId} {Y:Type} {zy:List (AV D.E)->St D.E->C Y} {pre:Y->Prop} {a r:Y->AV D.E} (h:Ok (bZ f Y zy pre (λy=>[a y]) r)) {y:Y} (j:pre y) {v:Value} (g:ey M H0 w) (i:TF M 0) (d:VR M (a y) v):
  Calls Tryz.prog f #[v] w λe m=>∃(b:Pm D) (u:Value),e=.returned u/\VR b (r y) u/\Qs [] M w b m:=
 h.2 y j M #[v] w (.cons d .nil) g i _ λc l _ k hs=>⟨c,l,rfl,k,Qs.OI hs⟩
def Qbh {t:Tree} (h1:kz t) (q:y=ay t) (v:y.length<=480) {m:Option Addr} {n vc:Nat} (s:VR M (.list 7 y) (.slice m n vc)) (r:ey M H0 w):
  Calls Tryz.prog 57 #[.slice m n vc,.int .i64 0] w λe p=>∃(x:E8) (F:List Nat) (g:Option Addr) (k j:Nat) (d:Option Addr) (f pc:Nat) (i:Int),
   e=.returned (.tuple #[.agg #[.int .i64 t.op,.slice g k j,.int .i64 t.mn,.int .i64 t.mx,.bool t.lz,.int .i64 t.cap,.int .i64 t.nk,.slice d f pc],.int .i64 i])/\
   (x.1=[.int .i64 t.op,.slice g k j,.int .i64 t.mn,.int .i64 t.mx,.bool t.lz,.int .i64 t.cap,.int .i64 t.nk,.slice d f pc])/\TA M p t x F/\F.Nodup/\(∀c∈F,w.heap.size<=c)/\Below w.heap.size w p:=by
 have a:1<=y.length:=by rw[q];exact sG t
 generalize hu:(Value.slice m n vc)=u at s;have h:∃(b o cap:Nat),u=.slice (some ⟨b,o,none⟩) y.length cap/\y.length<=cap/\Rd M w b o (aM (D:=D) 7 y)/\b<w.heap.size:=by
  cases s with
  | @list c b o cap xs hs C l=>exact⟨b,o,cap,rfl,l,rO jU r hs,r.slt (hs 0 a 0 _ rfl)⟩
  | fh=>exact absurd a (by decide)
 obtain⟨b,o,cap,e,l,z,A⟩:=h;rw[e];refine(Qbb (Zav v (by decide)) l (ay t).length t 0 [] w (Zah _) h1 (by rw[Zaw,<-q];rfl) z A).mono ?_;rintro B p ⟨x,F,rfl,k1,k2,k3,k4⟩;obtain⟨g,k,j,d,f,pc,ex⟩:=yy k1;exact⟨x,F,g,k,j,d,f,pc,_,by rw[ex],ex,k1,k2,k3,k4⟩
def Qbi {t:Tree} {A:List Value} (h1:kz t) (n:dG t) {x:E8} {F:List Nat} {a:World} {o:Obj} (ex:x.1=A) (j:TA M a t x F) (i:F.Nodup) (f:∀c∈F,w.heap.size<=c) (k:Below w.heap.size w a) (g:ey M H0 w) (p:TF M 0):
  Calls Tryz.prog 59 #[.agg A.toArray] (a.alloc o) λe m=>∃(b:Pm D) (v:Value),e=.returned v/\VR b (.agg (D.aX 15 (fb t))) v/\Qs [] M w b m:=by
 subst ex;have hs:=k.size;have h:Below w.heap.size w (a.alloc o):=k.alloc hs o;have l:Qs [] M w M (a.alloc o):=Qs.OI (tq g h 0);refine(Qgm Qly QlC QlD _ t x F M (a.alloc o) (Zah _) h1 n (vZ (lZ M) _ _ _ j λc _ hl=>Below.heap_alloc _ _ _ hl) i (λc d=>⟨Zav g.ml.1.1 (f c d),λo=>?_⟩) l.gn p).mono ?_
 ·cases e:M.sg c o with
  | none=>rfl
  | some u=>have:=g.slt e;have:=f c d;omega
 ·rintro e m ⟨b,v,rfl,k1,k2⟩;exact⟨b,v,rfl,k1,l.trans k2 λc d=>.inr (f c d)⟩
set_option maxHeartbeats 4000000 in
theorem Qbj (hm:Ok kS) (H:ov y) {v:Value} (C:ey M H0 w) (E:TF M 0) (q:VR M (.list 7 y) v):
  Calls Tryz.prog 24 #[v] w λe w'=>∃(S:Pm D) (W:Value),e=.returned W/\VR S (.list 7 (lk (aN y))) W/\Qs [] M w S w':=by
 have G:Calls Tryz.prog 56 #[v] w λe X=>∃(z:Pm D) (u:Value),e=.returned u/\VR z (.bool (cR y)) u/\Qs [] M w z X:=L7 (f:=56) (Qcy hm) (y:=y) H C E q
 obtain⟨va,vn,vc,rfl⟩:=A_ q
 by_cases d:cR y=true
 ·obtain⟨t,h1,A,B⟩:=jl d
  have k:aN y=ay (fb t):=by
   unfold aN
   rw[Zac d,A,po h1,Be h1]
  have I:=Lib.hid k
  have r:=Lib.hid h1
  rw[d] at G
  have hlen:=B
  have V:1<=y.length:=by rw[A];exact sG t
  have O:=Lib.hid A
  have Y:=Lib.hid H
  have Z:=Lib.hid q
  have H5:=Lib.hid C
  have H6:=Lib.hid E
  clear k h1 A H q C E d
  go_enter Tryz.func24,Tryz.ntmps24
  go_wp2_with (go_at_call 56;go_must (refine G.mono ?_;rintro e w1 ⟨s,u,rfl,hu,a⟩;obtain rfl:=v8 hu;clear hu))
  have m:TF s 0:=λb L=>(a.pl b).trans (H6.out b L)
  have P:=Lib.hid m
  have Q:=Lib.hid a
  have J:=Qbh r.out O.out B (Z.out.mono a.le) a.gn
  refine J.mono ?_
  rintro e w2 ⟨x,F,qa,qn,qc,pa,pn,pc,i,rfl,ex,k1,k2,k3,k4⟩
  have g:dG t:=by
   have h:=O.out
   have U:=Y.out
   rw[h] at U B
   exact⟨Zav B (by decide),U⟩
  have K4:=Qbi (o:=.cells #[.int .i64 t.op,.slice qa qn qc,.int .i64 t.mn,.int .i64 t.mx,.bool t.lz,.int .i64 t.cap,.int .i64 t.nk,.slice pa pn pc] 147) r.out g ex k1 k2 k3 k4 Q.out.gn P.out
  have R:=Lib.hid g
  have K6:=Lib.hid J
  clear k1 k2 k3 k4 ex m a g J
  go_wp2_with (go_at_call 59;go_must (refine K4.mono ?_;rintro e X ⟨z,u,rfl,hu,j⟩))
  have K:TF z 0:=λb L=>(j.pl b).trans (P.out b L)
  have hk:dG (fb t):=by
   have a1:=Be r.out
   have a2:=(qe t (E4 t r.out) ⟨Zah _,R.out.2⟩).2
   rw[<-a1] at a2
   exact⟨Zav a2.1 R.out.1,a2.2⟩
  have hl:=L7 Qdb hk j.gn K hu
  refine hl.mono ?_
  rintro e w4 ⟨T,u4,rfl,p,N⟩
  have K7:=Lib.hid p
  clear p hl hk
  go_wp2_with fail
  go_ret
  refine⟨T,_,rfl,?_,(Q.out.trans j λc d=>(nomatch d)).trans N λc d=>(nomatch d)⟩
  have e:cW (fb t)=lk (aN y):=by rw[aq,I.out];unfold cW;rw[aq]
  have hz:∀l:List Nd,cW (fb t)=l->VR T (.list 7 l) u4:=λl h=>by subst h;exact K7.out
  exact hz _ e
 ·have n:cR y=false:=by simpa using d
  rw[n] at G
  have hs:aN y=[]:=by unfold aN;rw[Zaa d]
  have I:=Lib.hid hs
  clear hs d n q C E H
  go_enter Tryz.func24,Tryz.ntmps24
  go_wp2_with (go_at_call 56;go_must (refine G.mono ?_;rintro e w1 ⟨s,u,rfl,hu,a⟩;obtain rfl:=v8 hu;clear hu))
  go_ret
  refine⟨s,_,rfl,?_,a⟩
  have hz:∀l:List Nd,l=[]->VR s (.list 7 l) (.slice none 0 0):=λl h=>by subst h;exact .fh
  exact hz _ ((aq _).trans I.out)
def QmN (i:Ok kS):Ok QaG:=by
 refine⟨⟨Tryz.f24,_,by kernel_rfl,di (by kernel_rfl)⟩,λy k M A w c f g R d=>?_⟩;obtain⟨v,rfl,j⟩:=xA c;exact(Qbj i k f g j).mono λe m ⟨a,l,h,h1,b⟩=>by rw[h];exact d a l m h1 b.QmM
end sx
namespace join
open Go Go.ChangeShapes Go.WideShapes Go.ChangeAt Go.RowKit
def p1 (P:Program) (_f:FuncId) (a:Func) (s:ChangeSpec) (c:OpenClaim):Bool:=(c.wf (OpenSpec.ofChange s)&&laidOutB P&&mapsRowed P)
def p2 (P:Program) (_f:FuncId) (fn:Func) (s:ChangeSpec) (c:OpenClaim):Bool:=(fn.params.all (P.readableRec ·)&&namedTie P c.named s.vars&&(c.stops==[])&&(P.stops==[])&&(c.knobs==[])&&(P.stopKnobs==[]))
def p3 (P:Program) (f:FuncId) (a:Func) (b:ChangeSpec) (c:OpenClaim):Bool:=(c.inPlace==P.inPlace f)
def p4 (P:Program) (f:FuncId) (a:Func) (b:ChangeSpec) (c:OpenClaim):Bool:=(c.unfollowed==P.unfollowed f)
def p5 (P:Program) (f:FuncId) (a:Func) (b:ChangeSpec) (c:OpenClaim):Bool:=(c.recurses==P.recurses f)
def p6 (P:Program) (f:FuncId) (a:Func) (b:ChangeSpec) (c:OpenClaim):Bool:=(c.named==P.varsNamed f)
def p7 (P:Program) (_f:FuncId) (fn:Func) (s:ChangeSpec) (c:OpenClaim):Bool:=((c.maps==(fn.params.toList++s.plain.varTypes P).any (P.mapsRec ·))&&(c.ifaces==(fn.params.toList++s.plain.varTypes P).any (P.ifacesRec ·))&&(c.mapsOut==P.mapsAmong fn.resultTypes.toList)&&(c.loops==(fn.params.toList++s.plain.varTypes P).any (P.loopsFrom ·))&&(c.wideKeys==(fn.params.toList++s.plain.varTypes P++fn.resultTypes.toList).any (P.wideKeysFrom ·))&&s.vars.all (P.varReadable ·)&&fn.resultTypes.all (λt=>P.readableRec t&&decide (t<P.types.size))&&(c.ifacesOut==fn.resultTypes.toList.any (P.ifacesRec ·))&&(c.loopsOut==fn.resultTypes.toList.any (P.loopsFrom ·)))
def p8 (P:Program) (_f:FuncId) (a:Func) (b:ChangeSpec) (c:OpenClaim):Bool:=(c.plainKeys==P.plainKeys)
def p9 (P:Program) (_f:FuncId) (a:Func) (b:ChangeSpec) (c:OpenClaim):Bool:=(c.shortTexts.isNone&&P.stopsHeard&&P.mayEnter)
def p10 (P:Program) (_f:FuncId) (a:Func) (b:ChangeSpec) (c:OpenClaim):Bool:=(c.lifted==P.liftsFinal)
def p11 (P:Program) (_f:FuncId) (fn:Func) (a:ChangeSpec) (c:OpenClaim):Bool:=((P.make==some c.make)&&(c.kinds==(if c.domain.isEmpty then[] else fn.params.toList.map λt=>match P.underlying t with | some (.int k)=>some k | _=>none))&&(c.pinned==c.pinnedBy))
def p12 (P:Program) (_f:FuncId) (fn:Func) (s:ChangeSpec) (c:OpenClaim):Bool:=((c.veiled==(fn.params.toList++s.plain.varTypes P++fn.resultTypes.toList).any (P.veiledRec ·))&&c.veiledFits P fn.params.toList (fn.params.toList++s.plain.varTypes P++fn.resultTypes.toList))
def facts {P:Program} {f:FuncId} {fn:Func} {s:ChangeSpec} {c:OpenClaim} (h1:p1 P f fn s c) (e:p2 P f fn s c) (i:p3 P f fn s c) (j:p4 P f fn s c) (k:p5 P f fn s c) (l:p6 P f fn s c) (b:p7 P f fn s c) (m:p8 P f fn s c) (h:p9 P f fn s c) (g:p10 P f fn s c) (a:p11 P f fn s c) (d:p12 P f fn s c):joinedFacts P f fn s c:=by
 unfold p1 at h1;unfold p2 at e;unfold p3 at i;unfold p4 at j;unfold p5 at k;unfold p6 at l;unfold p7 at b;unfold p8 at m;unfold p9 at h;unfold p10 at g;unfold p11 at a;unfold p12 at d;unfold joinedFacts;simp only[ZaW,Zdc] at h1 e b h a d ⊢;exact⟨h1.1,h1.2.1,h1.2.2,e.1,e.2.1,e.2.2.1,e.2.2.2.1,e.2.2.2.2.1,e.2.2.2.2.2,i,j,k,l,b.1,b.2.1,b.2.2.1,b.2.2.2.1,b.2.2.2.2.1,b.2.2.2.2.2.1,b.2.2.2.2.2.2.1,b.2.2.2.2.2.2.2.1,b.2.2.2.2.2.2.2.2,m,h.1,h.2.1,h.2.2,g,a.1,a.2.1,a.2.2,d.1,d.2⟩
end join
end Go.Proofs.YtadfknojfbmjgaaGreat
