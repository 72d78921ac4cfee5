/- StreamRises: a part of the proof. -/
import Derived.Test.YtadfknojfbmjgaaGreatC15
import Derived.Test.YtadfknojfbmjgaaGreatC31
import Derived.Test.YtadfknojfbmjgaaGreatC22
import Derived.Lib.MinMax
import Derived.Deep.DeepMust
import Derived.RegionTactic
import Derived.Laws.ResultCell
import Derived.Test.YtadfknojfbmjgaaGreatC29
set_option linter.all false
namespace Go.Proofs.YtadfknojfbmjgaaGreat
namespace sx
open Go Go.RowKit cls syn sl
abbrev E8:={l:List Value // l.length=8/\∀u∈l,u.oneCell'=true}
def e8 (x:E8):List Value:=x.1
def JC (x:E8):(e8 x).length=8:=x.2.1
def Qgk (x:E8):∀u∈e8 x,u.oneCell':=x.2.2
def Qba:mf Tryz.prog 145 147 8 96:=mf.mk' (z:=.agg #[.int .i64 0,.slice none 0 0,.int .i64 0,.int .i64 0,.bool false,.int .i64 0,.int .i64 0,.slice none 0 0]) Tryz.underlying145 (by kernel_rfl) rfl (by decide)
abbrev qC (w:World) (v:Value) (l:List E8):Prop:=j9 e8 8 147 0 w v l
def gW (v:Value):List Nat:=match v.ownBlock with
 | some b=>[b]
 | none=>[]
mutual
def TA (M:Pm D) (w:World):Tree->E8->List Nat->Prop
 | .mk op r mn mx lz cap nk ks,x,F=>∃(vr kv:Value) (l:List E8) (G:List Nat),x.1=[.int .i64 op,vr,.int .i64 mn,.int .i64 mx,.bool lz,.int .i64 cap,.int .i64 nk,kv]/\VR M (.list 6 r) vr/\(mv .i64 op&&mv .i64 mn&&mv .i64 mx&&mv .i64 cap&&mv .i64 nk)=true/\
  qC w kv l/\F=gW kv++G/\KA M w ks l G
def KA (M:Pm D) (w:World):List Tree->List E8->List Nat->Prop
 | [],l,F=>l=[]/\F=[]
 | t::ts,l,F=>∃(x:E8) (l':List E8) (F1 F2:List Nat),l=x::l'/\F=F1++F2/\TA M w t x F1/\KA M w ts l' F2
end
theorem ni {w a:World} {v:Value} {l:List E8} (h:qC w v l) (hk:∀b∈gW v,b<w.heap.size->a.heap[b]?=w.heap[b]?):qC a v l:=by
 refine⟨h.1,?_⟩;rcases h.2 with c | ⟨g,cap,cur,rfl,c,d,e⟩
 ·grind
 ·grind [gW,Value.ownBlock]
mutual
theorem vZ {M M':Pm D} {w w':World} (hM:Le M M'):∀(t:Tree) (x:E8) (F:List Nat),TA M w t x F->(∀b∈F,b<w.heap.size->w'.heap[b]?=w.heap[b]?)->TA M' w' t x F
 | .mk op r mn mx lz cap nk ks,x,F,h,hk=>by
  rw[TA] at h ⊢
  obtain⟨vr,kv,l,G,h1,h2,h3,h4,rfl,h6⟩:=h
  exact⟨vr,kv,l,G,h1,h2.mono hM,h3,ni h4 λb hb=>hk b (Zay _ hb),rfl,qi hM ks l G h6 λb hb=>hk b (ZaC _ hb)⟩
theorem qi {M M':Pm D} {w w':World} (hM:Le M M'):∀(ts:List Tree) (l:List E8) (F:List Nat),KA M w ts l F->(∀b∈F,b<w.heap.size->w'.heap[b]?=w.heap[b]?)->KA M' w' ts l F
 | [],l,F,h,_=>by rw[KA] at h ⊢;exact h
 | t::ts,l,F,h,hk=>by
  rw[KA] at h ⊢
  obtain⟨x,l',F1,F2,h1,rfl,h3,h4⟩:=h
  exact⟨x,l',F1,F2,h1,rfl,vZ hM t x F1 h3 λb hb=>hk b (Zay _ hb),qi hM ts l' F2 h4 λb hb=>hk b (ZaC _ hb)⟩
end
variable {w:World} {M:Pm D} {v:Value} {b:Nat} {Z:TypeId} {a:List Nat} {Y:Array Value} {X:Program}
theorem JD:∀{a:List Tree} {l:List E8} {F:List Nat},KA M w a l F->l.length=a.length
 | [],l,F,h=>by rw[KA] at h;rw[h.1];rfl
 | t::a,l,F,h=>by
  rw[KA] at h;obtain⟨x,e,c,d,rfl,_,_,b⟩:=h;simp[JD b]
theorem WH {t:Tree} {x:E8} (c:TA M w t x a):∀{b:List Tree} {l:List E8} {F:List Nat},KA M w b l F->KA M w (b++[t]) (l++[x]) (F++a)
 | [],l,F,h=>by
  rw[KA] at h;obtain⟨rfl,rfl⟩:=h;exact⟨x,[],a,[],rfl,by simp,c,by rw[KA];exact⟨rfl,rfl⟩⟩
 | u::b,l,F,h=>by
  rw[KA] at h;obtain⟨y,i,d,e,rfl,rfl,f,g⟩:=h;rw[Za1,KA];exact⟨y,i++[x],d,e++a,rfl,by rw[ZaD],f,WH c g⟩
theorem mg {fr:Nat×Nat} (a:w.heap[b]?=some (.cells Y Z fr)) (j:Nat):w.cell? ⟨b,j,none⟩=Y[j]?:=by simp[World.cell?,a]
theorem LY (a:w.heap[b]?=some (.cells Y Z (0,0))) (j:Nat):w.frozen? ⟨b,j,none⟩=false:=by simp[World.frozen?,a]
def FZ (h:b=w.heap.size) (o:Obj):(w.alloc o).heap[b]?=some o:=by subst h;exact heap_alloc_new w o
def sQ {k:IntKind} {n:Int} (h:VR M (.int k n) v):v=.int k n/\mv k n:=by cases h with | int h=>exact⟨rfl,h⟩
def v8 {b:Bool} (h:VR M (.bool b) v):v=.bool b:=by cases h;rfl
def A_ {c:List (D.E b)} (h:VR M (.list b c) v):∃a n k,v=.slice a n k:=by cases h<;>exact⟨_,_,_,rfl⟩
def yy {t:Tree} {x:E8} (h:TA M w t x a):∃F n c b g d,x.1=[.int .i64 t.op,.slice F n c,.int .i64 t.mn,.int .i64 t.mx,.bool t.lz,.int .i64 t.cap,.int .i64 t.nk,.slice b g d]:=by
 cases t;rw[TA] at h;obtain⟨o,m,l,G,h1,e,i,f,j,k⟩:=h;obtain⟨_,_,_,rfl⟩:=A_ e;obtain⟨_,_,rfl,_⟩:=f.rd;exact⟨_,_,_,_,_,_,h1⟩
def WI {fn:Func} {p u:Tmp} (h:fn.results=#[.cell p Z,.tmp u]) (tmps:Array Value) {a:Addr} (b:tmps.getD p Go.undef=.pointer (some a)) (c:(loadVar Z a).run X w=.ok v w):(results fn tmps).run X w=.ok (.tuple #[v,tmps.getD u Go.undef]) w:=by
 rw[results_cell_tmp h,b];simp[asAddr,c]
def qj {fn:Func} {p:Tmp} (h:fn.results=#[.cell p Z]) (tmps:Array Value) {a:Addr} (c:tmps.getD p Go.undef=.pointer (some a)) (d:(loadVar Z a).run X w=.ok v w):(results fn tmps).run X w=.ok v w:=by
 have b:tmps[p]?.getD Go.undef=.pointer (some a):=by simpa using c
 simp[results,h,b,asAddr,d]
abbrev F0 (w:World) (b:Nat) (a c d v3 e v5 f g:Value):World:=(((((((w.setCell ⟨b,0,none⟩ a).setCell ⟨b,1,none⟩ c).setCell ⟨b,2,none⟩ d).setCell ⟨b,3,none⟩ v3).setCell ⟨b,4,none⟩ e).setCell ⟨b,5,none⟩ v5).setCell ⟨b,6,none⟩ f).setCell ⟨b,7,none⟩ g
variable {w:World} {b i:Nat} {v:Value} {N:Array Value} {M:TypeId} {a:Nat×Nat}
variable {k:Nat}
theorem heap_set (h:w.heap[b]?=some (.cells N M a)):(w.setCell ⟨b,i,none⟩ v).heap[b]?=some (.cells (N.setIfInBounds i v) M a):=by
 grind [World.setCell]
def j_ (h:k≠b):(w.setCell ⟨b,i,none⟩ v).heap[k]?=w.heap[k]?:=Below.heap_setCell _ _ _ _ h
theorem Ba {v0 v1 v2 v3 v4 v5 v6 v7:Value} (h:w.heap[b]?=some (.cells N M a)) (hs:N.size=8):(F0 w b v0 v1 v2 v3 v4 v5 v6 v7).heap[b]?=some (.cells #[v0,v1,v2,v3,v4,v5,v6,v7] M a):=by
 unfold F0;rw[heap_set (heap_set (heap_set (heap_set (heap_set (heap_set (heap_set (heap_set h)))))))];obtain⟨l⟩:=N;obtain⟨a0,l,rfl⟩:=ZaB (show l.length=7+1 from hs);obtain⟨c,l,rfl⟩:=ZaB (show l.length=6+1 by simpa using hs);obtain⟨a2,l,rfl⟩:=ZaB (show l.length=5+1 by simpa using hs);obtain⟨a3,l,rfl⟩:=ZaB (show l.length=4+1 by simpa using hs);obtain⟨a4,l,rfl⟩:=ZaB (show l.length=3+1 by simpa using hs);obtain⟨a5,l,rfl⟩:=ZaB (show l.length=2+1 by simpa using hs);obtain⟨d,l,rfl⟩:=ZaB (show l.length=1+1 by simpa using hs);obtain⟨e,l,rfl⟩:=ZaB (show l.length=0+1 by simpa using hs);simp_all
def yz {v0 v1 v2 v3 v4 v5 v6 v7:Value} (h:k≠b):(F0 w b v0 v1 v2 v3 v4 v5 v6 v7).heap[k]?=w.heap[k]?:=by
 unfold F0;rw[j_ h,j_ h,j_ h,j_ h,j_ h,j_ h,j_ h,j_ h]
theorem lx {v0 v1 v2 v3 v4 v5 v6 v7:Value}:Below b w (F0 w b v0 v1 v2 v3 v4 v5 v6 v7):=by
 unfold F0;have k:∀(W:World) (i:Nat) (v:Value),Below b w W->Below b w (W.setCell ⟨b,i,none⟩ v):=λW i v h=>h.setCell (Zah _) v
 grind [Below.refl]
def nodeAt {M:Pm D} {y:List Nd} (h:Rd M w b i (aM (D:=D) 7 y)) {x:Nd} (e:y[k]?=some x):
  ∃a,VR M (.list 6 x.r) a/\(mv .i64 x.op&&mv .i64 x.mn&&mv .i64 x.mx&&mv .i64 x.cap&&mv .i64 x.kids)/\
   w.cell? ⟨b,i+k*7,none⟩=some (.int .i64 x.op)/\w.cell? ⟨b,i+k*7+1,none⟩=some a/\w.cell? ⟨b,i+k*7+2,none⟩=some (.int .i64 x.mn)/\w.cell? ⟨b,i+k*7+3,none⟩=some (.int .i64 x.mx)/\
   w.cell? ⟨b,i+k*7+4,none⟩=some (.bool x.lz)/\w.cell? ⟨b,i+k*7+5,none⟩=some (.int .i64 x.cap)/\w.cell? ⟨b,i+k*7+6,none⟩=some (.int .i64 x.kids):=by
 obtain⟨hi,rfl⟩:=Zam.1 e;have o:=zH jU h hi;obtain⟨z,a0,f⟩:=o 0 _ rfl;obtain⟨v,c,b1⟩:=o 1 _ rfl;obtain⟨A,a2,g⟩:=o 2 _ rfl;obtain⟨v3,a3,j⟩:=o 3 _ rfl;obtain⟨B,a4,l⟩:=o 4 _ rfl;obtain⟨v5,a5,m⟩:=o 5 _ rfl;obtain⟨C,d,n⟩:=o 6 _ rfl;obtain⟨rfl,p⟩:=sQ f;obtain⟨rfl,q⟩:=sQ g;obtain⟨rfl,s⟩:=sQ j;obtain rfl:=v8 l;obtain⟨rfl,t⟩:=sQ m;obtain⟨rfl,u⟩:=sQ n;exact⟨v,b1,by simp only[ZaW];exact⟨⟨⟨⟨p,q⟩,s⟩,t⟩,u⟩,a0,c,a2,a3,a4,a5,d⟩
def v_ {l:List E8} (h:qC w v l):∀c∈gW v,c<w.heap.size:=λc a=>by
 unfold gW at a;split at a
 ·rename_i e
  rw[ZaI.1 a];exact(h.lt _ e).2
 ·cases a
mutual
theorem Qdt {M:Pm D} {w:World}:∀(t:Tree) (x:E8) (F:List Nat),TA M w t x F->∀c∈F,c<w.heap.size
 | .mk op r mn mx lz cap nk ks,x,F,h=>by
  rw[TA] at h
  obtain⟨vr,kv,l,G,h1,h2,h3,h4,rfl,h6⟩:=h
  exact λc hc=>(Zax.1 hc).elim (v_ h4 c) (WJ ks l G h6 c)
theorem WJ {M:Pm D} {w:World}:∀(ts:List Tree) (l:List E8) (F:List Nat),KA M w ts l F->∀c∈F,c<w.heap.size
 | [],l,F,h=>by rw[KA] at h;rw[h.2];exact λc hc=>nomatch hc
 | t::ts,l,F,h=>by
  rw[KA] at h
  obtain⟨x,l',F1,F2,h1,rfl,h3,h4⟩:=h
  exact λc hc=>(Zax.1 hc).elim (Qdt t x F1 h3 c) (WJ ts l' F2 h4 c)
end
def lZ (M:Pm D):Le M M:=⟨λ_ _ h=>h,λ_ _ _ h=>h⟩
def sR {v:Value} {c:Nat} (h:v.ownBlock=some c):c∈gW v:=by unfold gW;rw[h];exact ZaI.2 rfl
theorem WK {M:Pm D} {wr k b:World} {n1:Nat} {g:Value} {l:List E8} {G:List Nat} {B:List Tree} {A:Tree} {x1:E8} {n:List Nat} {o1 K:Obj} {a m o:Nat} {u:Value}
  (O:qC wr g l) (t:KA M wr B l G) (w:(gW g++G).Nodup) (s:∀c∈gW g++G,n1+1<=c/\c<wr.heap.size) (cI:n1+1<=wr.heap.size) (y:Below wr.heap.size wr k) (q:TA M k A x1 n) (I:n.Nodup) (r:∀c∈n,wr.heap.size<=c)
  (f:qC b (.slice (some ⟨a,0,none⟩) m o) (l++[x1])) (z:((k.alloc o1).alloc K).grownBy b g.ownBlock) (i:sl.bR (k.alloc o1) g (.slice (some ⟨a,0,none⟩) m o)):
  qC (b.setCell ⟨n1,7,none⟩ u) (.slice (some ⟨a,0,none⟩) m o) (l++[x1])/\KA M (b.setCell ⟨n1,7,none⟩ u) (B++[A]) (l++[x1]) (G++n)/\(gW (.slice (some ⟨a,0,none⟩) m o)++(G++n)).Nodup/\
   ∀c∈gW (.slice (some ⟨a,0,none⟩) m o)++(G++n),n1+1<=c/\c<(b.setCell ⟨n1,7,none⟩ u).heap.size:=by
 have hs:=y.size;have x:=z.size;simp only[World.alloc,ZcH] at x;have J:(b.setCell ⟨n1,7,none⟩ u).heap.size=b.heap.size:=by simp[World.setCell]
 have h:gW (.slice (some ⟨a,0,none⟩) m o)=[a]:=rfl;have F:n1+1<=a/\(a∈gW g\/k.heap.size+1<=a):=by
  rcases i with i | i | ⟨j,i,N⟩
  ·have:a∈gW g:=sR i.symm;simp_all
  ·cases i
  ·cases i;grind [World.alloc]
 have H:a<b.heap.size:=v_ f a (by rw[h];simp);have L:=Qdt _ _ _ q;have d:∀c,n1+1<=c->c<k.heap.size->c ∉ gW g->(b.setCell ⟨n1,7,none⟩ u).heap[c]?=k.heap[c]?:=λc h1 C E=>by
  rw[Below.heap_setCell _ _ _ _ (by show c≠n1;omega),z.block c (by simp only[World.alloc,ZcH];omega) (λe=>E (sR e.symm)),Below.heap_alloc _ _ _ (by simp only[World.alloc,ZcH];omega),Below.heap_alloc _ _ _ C]
 have v:=ZbR.1 w;refine⟨ni f λc p _=>Below.heap_setCell _ _ _ _ (by rw[h,ZaI] at p;show c≠n1;omega),WH (vZ (lZ M) _ _ _ q λc p hl=>d c (by have:=r c p;omega) hl λhk=>?_) (qi (lZ M) _ _ _ t λc p hl=>(d c (s c (ZaC _ p)).1 ω λhk=>v.2.2 c hk c p rfl).trans (y.block c hl)),?_,?_⟩
 ·grind
 ·rw[h,List.singleton_append,List.nodup_cons,ZbR];grind
 ·grind
set_option maxHeartbeats 4000000 in
theorem Qbb {M:Pm D} {y:List Nd} {b o cap:Nat} (hl:y.length<=1000000) (E:y.length<=cap):∀(n:Nat) (t:Tree) (at_:Nat) (rest:List Nd) (w:World),(ay t).length<=n->kz t->y.drop at_=ay t++rest->Rd M w b o (aM (D:=D) 7 y)->b<w.heap.size->
  Calls Tryz.prog 57 #[.slice (some ⟨b,o,none⟩) y.length cap,.int .i64 at_] w λe w'=>∃(x:E8) (F:List Nat),e=.returned (.tuple #[.agg x.1.toArray,.int .i64 ((at_+(ay t).length:Nat):Int)])/\TA M w' t x F/\F.Nodup/\(∀c∈F,w.heap.size<=c)/\Below w.heap.size w w':=by
 intro n
 induction n with
 | zero=>
  intro t at_ rest w h
  cases t
  grind [ay]
 | succ n ih=>
  intro t at_ rest w hn hw hd hR hb
  obtain⟨op,r,mn,mx,lz,cap,nk,a⟩:=t
  rw[ay] at hn hd
  rw[kz] at hw
  obtain⟨_,rfl,X⟩:=hw
  have ha:at_<y.length:=by
   grind [List.drop_eq_nil_of_le]
  have hx:y[at_]?=some ⟨op,r,mn,mx,lz,cap,a.length⟩:=by
   have:=ZaR (λl=>l[0]?) hd
   grind
  obtain⟨vr,hvr,hin,c0,c1,c2,c3,c4,c5,c6⟩:=nodeAt hR hx
  obtain⟨H,rn,rc,rfl⟩:=A_ hvr
  have HX:=Lib.hid (p:=Rd M w b o (aM (D:=D) 7 y)) hR
  clear hR hx
  go_enter Tryz.func57,Tryz.ntmps57
  go_wp2_with fail
  have hzs:w.heap.size<w.heap.size+2:=ω
  go_loopg [1,7] a.length (λg p i wr=>∃(k:Nat) (R:Value) (l:List E8) (G:List Nat),k<=a.length/\g=a.length-k/\p=.int .i64 ((at_+1+(au (a.take k)).length:Nat):Int)/\i=.int .i64 k/\
   wr.heap[w.heap.size]?=some (.cells #[.int .i64 0,.slice none 0 0,.int .i64 0,.int .i64 0,.bool false,.int .i64 0,.int .i64 0,.slice none 0 0] 147 (0,0))/\
   wr.heap[w.heap.size+1]?=some (.cells #[.int .i64 op,.slice H rn rc,.int .i64 mn,.int .i64 mx,.bool lz,.int .i64 cap,.int .i64 a.length,R] 147 (0,0))/\
   qC wr R l/\KA M wr (a.take k) l G/\(gW R++G).Nodup/\(∀c∈gW R++G,w.heap.size+2<=c/\c<wr.heap.size)/\w.heap.size+2<=wr.heap.size/\Below w.heap.size w wr)
  case atStart=>
   refine⟨0,_,[],[],ω,rfl,by rw[ZcA,au];go_num,rfl,?_,?_,j9.nil _ _ _ _ _,by rw[ZcA,KA];exact⟨rfl,rfl⟩,by simp[gW,Value.ownBlock],by simp[gW,Value.ownBlock],by simp,?_⟩
   ·grind [Below.heap_alloc,heap_alloc_new]
   ·exact FZ (by simp) _
   ·exact((Below.refl _ _).alloc (Zah _) _).alloc (by simp) _
  case round=>
   obtain⟨k,R,l,G,hk,rfl,rfl,rfl,hz,q,ho,N,O,L,cI,hbl⟩:=hrel
   have A:=JD N
   replace A:l.length=k:=by rw[A,Zar];omega
   have d6:wr.cell? ⟨w.heap.size+1,6,none⟩=some (.int .i64 a.length):=by simp[World.cell?,q]
   have d7:wr.cell? ⟨w.heap.size+1,7,none⟩=some R:=by simp[World.cell?,q]
   obtain⟨d,f,rfl,hrd,_⟩:=ho.rd
   rw[A] at ho O L d7 q
   have HL:=Lib.hid A
   have H1:=Lib.hid hz
   have H2:=Lib.hid q
   have H3:=Lib.hid ho
   have H4:=Lib.hid N
   have H5:=Lib.hid O
   have J:=Lib.hid L
   have H7:=Lib.hid hbl
   have H8:=Lib.hid X
   have H9:=Lib.hid hd
   clear hz q ho N O L hrd hd X A
   have hL:a.length<=y.length:=by
    have h1:=ZaR List.length H9.out
    grind [tF]
   by_cases hlt:k<a.length
   ·obtain⟨I,C⟩:∃I,a[k]?=some I:=⟨_,Zaf hlt⟩
    have ht:au a=au (a.take k)++(ay I++au (a.drop (k+1))):=by
     grind [cU,ct,List.drop_eq_getElem_cons,List.take_append_drop]
    have htk:au (a.take (k+1))=au (a.take k)++ay I:=by rw[Zcr,C];exact x4 _ _
    have hwt:kz I:=(qf a).1 H8.out I (ZaJ C)
    have U:y.drop (at_+1+(au (a.take k)).length)=ay I++(au (a.drop (k+1))++rest):=by
     have h1:=ZaR (List.drop (1+(au (a.take k)).length)) H9.out
     grind [List.drop_drop]
    have z:=ih I (at_+1+(au (a.take k)).length) _ wr (by rw[ht] at hn;simp only[Zae,Zab] at hn;omega) hwt U (λi v e=>let ⟨v',a1,a2⟩:=HX.out i v e;⟨v',(H7.out.cell (p:=⟨b,o+i,none⟩) hb).trans a1,a2⟩) ω
    have HT:=Lib.hid ht
    have HK:=Lib.hid htk
    have HX':=Lib.hid C
    clear ht htk C U hwt
    generalize hm:(au (a.take k)).length=m at z
    have HM:=Lib.hid hm
    clear hm
    go_wp2_with fail
    refine z.mono ?_
    rintro e w1 ⟨x1,F1,rfl,Q,Y,V,lK⟩
    obtain⟨qa,qn,qc,pa,pn,pc,ex⟩:=yy Q
    rw[ex]
    have G1:=Lib.hid Q
    have G2:=Lib.hid Y
    have G3:=Lib.hid V
    have G4:=Lib.hid lK
    have G5:=Lib.hid ex
    have hs1:=lK.size
    have Z:qC w1 (.slice d k f) l:=H3.out.below lK (Zah _)
    have s:=(lK.block (w.heap.size+1) ω).trans H2.out
    have d7:w1.cell? ⟨w.heap.size+1,7,none⟩=some (.slice d k f):=by rw[mg s];rfl
    have O1:=Lib.hid Z
    have B1:=Lib.hid s
    have hs2:w.heap.size+1<w1.heap.size:=ω
    have hs3:w.heap.size+1<w1.heap.size+1:=ω
    have hlm:l.length<1000000000:=by rw[HL.out];omega
    clear Q Y V lK ex Z s
    go_wp2_with (at_builtin;go_must (refine CQ (aX:=e8) (v:=.slice d k f) Qba rfl rfl rfl rfl (by simp) (O1.out.alloc _) x1 G5.out.symm JC Qgk hlm (by decide) (Zaj _) ?_);intro v2 w2 o2 g2 f2;go_must (obtain⟨g',cp,rfl,_⟩:=o2.form (by simp);have B:=(g2.block (w.heap.size+1) (by simp;omega) (λe=>by have:=(J.out _ (Zay _ (by unfold gW;rw[<-e];exact ZaI.2 rfl))).1;omega)).trans ((Below.heap_alloc _ _ _ (by simp;omega)).trans ((Below.heap_alloc _ _ _ hs2).trans B1.out));have d8:w2.cell? ⟨w.heap.size+1,7,none⟩=some (.slice d k f):=mg B 7;have f8:w2.frozen? ⟨w.heap.size+1,7,none⟩=false:=LY B 7;have B2:=Lib.hid B;have O2:=Lib.hid o2;have G6:=Lib.hid g2;have G7:=Lib.hid f2;clear B o2 g2 f2))
    go_roundg (a.length-(k+1))
    case measure=>omega
    case rel=>
     have hE:(l++[x1]).length=l.length+1:=by simp
     have hr:=WK (u:=.slice (some ⟨g',0,none⟩) (l.length+1) cp) H3.out H4.out H5.out (n1:=w.heap.size+1) (λc E=>J.out c E) cI G4.out G1.out G2.out G3.out O2.out G6.out G7.out
     rw[hE] at hr
     refine⟨k+1,_,_,_,ω,rfl,?_,by go_num,?_,?_,hr.1,?_,hr.2.2.1,hr.2.2.2,?_,?_⟩
     ·rw[HK.out,Zab,HM.out];go_num
     ·rw[Below.heap_setCell _ _ _ _ (by show w.heap.size≠w.heap.size+1;omega),G6.out.block _ (by simp;omega) (λe=>by have:=(J.out _ (Zay _ (sR e.symm))).1;omega),Below.heap_alloc _ _ _ (by simp;omega),Below.heap_alloc _ _ _ ω,G4.out.block _ ω];exact H1.out
     ·simp only[World.setCell,ZbF,Zac,B2.out,Zcp];rfl
     ·rw[Zcr,HX'.out];exact hr.2.1
     ·have:=G6.out.size;simp only[World.alloc,ZcH] at this;simp only[World.setCell,Array.size_modify];omega
     ·exact((H7.out.trans (G4.out.mono ω)).trans (((Below.refl w.heap.size w1).alloc ω _).alloc (by simp;omega) _)).grown G6.out (by simp;omega) (λc e=>by have:=(J.out _ (Zay _ (sR e))).1;omega) |>.setCell (by show w.heap.size<=w.heap.size+1;omega) _
   ·obtain rfl:k=a.length:=ω
    have hcz:∀j,wr.cell? ⟨w.heap.size,j,none⟩=(#[.int .i64 0,.slice none 0 0,.int .i64 0,.int .i64 0,.bool false,.int .i64 0,.int .i64 0,.slice none 0 0]:Array Value)[j]?:=λj=>mg H1.out j
    have hfz:∀j,wr.frozen? ⟨w.heap.size,j,none⟩=false:=LY H1.out
    have hcb:∀j,wr.cell? ⟨w.heap.size+1,j,none⟩=(#[.int .i64 op,.slice H rn rc,.int .i64 mn,.int .i64 mx,.bool lz,.int .i64 cap,.int .i64 a.length,.slice d a.length f]:Array Value)[j]?:=λj=>mg H2.out j
    clear d6 d7
    go_wp2_with fail
    obtain⟨W,hW⟩:∃W,W=F0 wr w.heap.size (.int .i64 op) (.slice H rn rc) (.int .i64 mn) (.int .i64 mx) (.bool lz) (.int .i64 cap) (.int .i64 a.length) (.slice d a.length f):=⟨_,rfl⟩
    have T:=Ba H1.out rfl (v0:=.int .i64 op) (v1:=.slice H rn rc) (v2:=.int .i64 mn) (v3:=.int .i64 mx) (v4:=.bool lz) (v5:=.int .i64 cap) (v6:=.int .i64 a.length) (v7:=.slice d a.length f)
    have K:=λk h=>yz (w:=wr) (b:=w.heap.size) (k:=k) (v0:=.int .i64 op) (v1:=.slice H rn rc) (v2:=.int .i64 mn) (v3:=.int .i64 mx) (v4:=.bool lz) (v5:=.int .i64 cap) (v6:=.int .i64 a.length) (v7:=.slice d a.length f) h
    have S:=lx (w:=wr) (b:=w.heap.size) (v0:=.int .i64 op) (v1:=.slice H rn rc) (v2:=.int .i64 mn) (v3:=.int .i64 mx) (v4:=.bool lz) (v5:=.int .i64 cap) (v6:=.int .i64 a.length) (v7:=.slice d a.length f)
    rw[<-hW] at T K S
    change bodyPost _ _ _ _ _ (F0 wr w.heap.size (.int .i64 op) (.slice H rn rc) (.int .i64 mn) (.int .i64 mx) (.bool lz) (.int .i64 cap) (.int .i64 a.length) (.slice d a.length f))
    rw[<-hW]
    have hT:=H4.out
    have hP:=H9.out
    rw[ZaM] at hT ⊢
    have hv:=run_loadVar_row (P:=Tryz.prog) W w.heap.size _ 147 _ _ _ T Tryz.underlying147 rfl (by kernel_rfl)
    refine bodyPost_ret (WI rfl _ rfl hv) rfl ?_
    refine⟨⟨[.int .i64 op,.slice H rn rc,.int .i64 mn,.int .i64 mx,.bool lz,.int .i64 cap,.int .i64 a.length,.slice d a.length f],rfl,by simp[Value.oneCell']⟩,gW (.slice d a.length f)++G,?_,?_,H5.out,λc E=>by have:=(J.out c E).1;omega,?_⟩
    ·have hn':at_+1+(au a).length=at_+(ay (.mk op r mn mx lz cap (a.length:Int) a)).length:=by rw[ay,Zae];omega
     rw[<-hn']
     rfl
    ·rw[TA]
     exact⟨_,_,l,G,rfl,hvr,hin,ni H3.out λc E _=>K c (by have:=(J.out c (Zay _ E)).1;omega),rfl,qi (lZ M) _ _ _ hT λc E _=>K c (by have:=(J.out c (ZaC _ E)).1;omega)⟩
    ·exact H7.out.trans (S.mono (Zah _))
end sx
set_option maxRecDepth 100000
set_option maxHeartbeats 4000000
namespace sx
noncomputable section
open Go Go.RowKit cls syn
mutual
def nrm:Tree->Tree
 | .mk op r mn mx lz cap _ ks=>.mk op r mn mx lz cap ks.length (oh ks)
def oh:List Tree->List Tree
 | []=>[]
 | t::l=>nrm t::oh l
end
theorem gk (l:List Tree):oh l=l.map nrm:=by
 induction l with
 | nil=>simp[oh]
 | cons a l b=>simp[oh,b]
def js (t:Tree):nrm t=.mk t.op t.r t.mn t.mx t.lz t.cap t.kids.length (t.kids.map nrm):=by cases t;rw[nrm,gk];rfl
mutual
theorem yB:∀(t:Tree) (m:Nat) (rest:List Nd),(ay t++rest).length<=m->fH m (ay t++rest)=some (nrm t,rest)
 | .mk op r mn mx lz cap nk ks,m,rest,hm=>by
  rw[ay] at hm ⊢
  simp only[Za1,Zae] at hm ⊢
  obtain⟨k,rfl⟩:∃k,m=k+1:=⟨m-1,ω⟩
  rw[fH]
  simp only[Zad]
  rw[Bb ks k rest ω,nrm]
theorem Bb:∀(l:List Tree) (m:Nat) (rest:List Nd),(au l++rest).length<=m->jL (fH m) l.length (au l++rest)=some (oh l,rest)
 | [],m,rest,_=>by simp[jL,au,oh]
 | t::l,m,rest,hm=>by
  rw[au,ZaD] at hm ⊢
  rw[Zae,jL,yB t m _ hm]
  simp only
  rw[Bb l m rest (by simp only[Zab] at hm ⊢;omega),oh]
end
mutual
theorem yC:∀t:Tree,ay (nrm t)=ay t
 | .mk op r mn mx lz cap nk ks=>by rw[nrm,ay,ay,qk ks,gk,Za2]
theorem qk:∀l:List Tree,au (oh l)=au l
 | []=>by rw[oh]
 | t::l=>by rw[oh,au,au,yC t,qk l]
end
theorem yD (a b:Tree):ay a=ay b↔nrm a=nrm b:=by
 constructor
 ·intro h;have h1:=yB a (ay a).length [] (by simp);grind [yB]
 ·grind [yC]
theorem CT (a b:Tree):vd a b↔nrm a=nrm b:=by
 grind [vd,aq,yD]
mutual
theorem LZ:∀a b:Tree,Tr a b=true↔nrm a=nrm b
 | .mk op r mn mx lz cap nk ks,b=>by
  rw[Tr,nrm,js b]
  simp only[ZaW,Zb7,ZaP,Tree.mk.injEq,<-gk]
  constructor
  ·rintro⟨⟨⟨⟨⟨⟨⟨h1,h2⟩,h3⟩,h4⟩,h5⟩,h6⟩,h7⟩,h8⟩
   exact⟨h1,h6,h2,h3,h4,h5,ω,(yE ks b.kids h7).mp h8⟩
  ·rintro⟨h1,h6,h2,h3,h4,h5,h7,h8⟩
   have h7:ks.length=b.kids.length:=ω
   exact⟨⟨⟨⟨⟨⟨⟨h1,h2⟩,h3⟩,h4⟩,h5⟩,h6⟩,h7⟩,(yE ks b.kids h7).mpr h8⟩
theorem yE:∀l m:List Tree,l.length=m.length->(sD l m=true↔oh l=oh m)
 | [],m,h=>by
  cases m with
  | nil=>simp[sD,oh]
  | cons b m=>cases h
 | a::l,m,h=>by
  cases m with
  | nil=>cases h
  | cons b m=>
   rw[sD,oh,oh,ZaW,LZ a b,yE l m (by simpa using h),List.cons.injEq]
end
theorem L0 (a b:Tree):ou a b↔nrm a=nrm b:=by
 unfold ou;rw[aq,LZ]
theorem Qbc (a b:Tree):vd a b=ou a b:=by grind [CT,L0]
theorem sS:∀(l s o:List Tree),(∀k,s.any (λx=>ou x k)=o.any (λx=>ou x k))->dK o l=o++fa s l
 | [],s,o,_=>by grind [dK,fa]
 | k::l,s,o,h=>by
  rw[dK,fa];have b:(λx=>vd x k)=λx=>ou x k:=funext λx=>Qbc x k
  rw[b];by_cases c:s.any (λx=>ou x k)
  ·rw[Zac c,Zac (by simp_all)];refine sS l (s++[k]) o λa=>?_
   rw[Zca,h];simp only[ZdX,List.any_nil,Zdh];cases hk:ou k a with
   | false=>rw[Zdh]
   | true=>
    rw[Bool.or_true];symm;rw[h] at c;grind [L0]
  ·rw[Zaa c,Zaa (by simp_all),sS l (s++[k]) (o++[k]) λa=>by simp_all];simp
def wa (l:List Tree):vS l=jM l:=by
 unfold vS jM;rw[sS l [] [] λ_=>rfl,Zcb]
theorem sT:∀(l o:List Tree),(bt o l).length=o.length+l.length->bt o l=o++l
 | [],o,_=>by grind [bt]
 | k::l,o,h=>by
  rw[bt] at h ⊢;have h1:(dv o k).length<=o.length+1:=jk o k;have b:∀(l o:List Tree),(bt o l).length<=o.length+l.length:=λl=>by
   induction l with
   | nil=>intro o;rw[bt];exact Zah _
   | cons a l c=>intro o;rw[bt];have:=c (dv o a);have:=jk o a;simp only[Zae];omega
  have d:=b l (dv o k);simp only[Zae] at h;rw[sT l (dv o k) ω];grind [dv]
theorem Ov {l:List Tree} (h:(jM l).length=l.length):jM l=l:=by
 unfold jM at h ⊢;have e:dK [] l=fa [] l:=by grind [sS]
 rw[e] at h ⊢;have s:=yP l [];have c:=s.length_le;have d:(bt [] (fa [] l)).length<=(fa [] l).length:=by
  have:∀(l o:List Tree),(bt o l).length<=o.length+l.length:=λl=>by
   induction l with
   | nil=>intro o;rw[bt];exact Zah _
   | cons a l b=>intro o;rw[bt];have:=b (dv o a);have:=jk o a;simp only[Zae];omega
  grind
 grind [sT]
theorem Qbd (l:List Tree):(jM l).length<=l.length:=by
 rw[<-wa];unfold vS;have:∀(l o:List Tree),(bt o l).length<=o.length+l.length:=λl=>by
  induction l with
  | nil=>intro o;rw[bt];exact Zah _
  | cons a l b=>intro o;rw[bt];have:=b (dv o a);have:=jk o a;simp only[Zae];omega
 grind [yP]
theorem L1:∀(n:Nat) (l:List Tree),l.length<=n->hV n l=jN n l
 | 0,l,h=>by
  have:l=[]:=Zap ω;subst this;rfl
 | n+1,l,h=>by
  rw[hV,jN,wa];have:=Qbd l;by_cases c:(jM l).length=l.length
  ·grind [Ov]
  ·rw[Zac ω,Zaa c];exact L1 n _ ω
mutual
def eg:Tree->Prop
 | .mk op _ _ _ _ _ _ ks=>(op=3->∀k∈ks,k.op≠1)/\(op=4->ks≠[])/\uD ks
def uD:List Tree->Prop
 | []=>True
 | t::l=>eg t/\uD l
end
theorem Bc (l:List Tree):uD l↔∀t∈l,eg t:=by
 induction l with
 | nil=>simp[uD]
 | cons a l b=>rw[uD,b];simp
theorem kC (t:Tree):eg t↔(t.op=3->∀k∈t.kids,k.op≠1)/\(t.op=4->t.kids≠[])/\∀k∈t.kids,eg k:=by cases t;rw[eg,Bc];exact ZbW
noncomputable def byD (t:Tree):Tree:=if t.op=3 then Jc t else if t.op=4 then Jf t else if t.op=5 then cJ t else t
theorem WL {l:List Tree} (h:∀k∈l,eg k):e_ l=gT (aw 3 l):=by
 unfold e_ gT aw;rw[List.filter_flatMap];have:∀k∈l,(if k.op=1 then([]:List Tree) else if k.op=3 then k.kids else[k])=List.filter (λt=>!vN t) (if k.op=3 then k.kids else[k]):=λk hk=>by
  grind [kC,List.filter_eq_self,vN]
 clear h
 induction l with
 | nil=>rfl
 | cons a l b=>rw[Zbt,Zbt,this a (by simp),b λk hk=>this k (by grind)]
theorem mh (t:Tree):(nrm t).op=t.op:=by rw[js];rfl
theorem WM (t:Tree):(nrm t).r=t.r:=by rw[js];rfl
theorem nj (t:Tree):(nrm t).kids=t.kids.map nrm:=by rw[js];rfl
theorem l0 (t:Tree):nrm (nrm t)=nrm t:=by rw[<-yD,yC]
theorem sU (l:List Tree):(l.map nrm).map nrm=l.map nrm:=by grind [List.map_congr_left,l0]
theorem JE (op:Int) (l:List Tree):aw op (l.map nrm)=(aw op l).map nrm:=by
 unfold aw;grind [List.flatMap_map,mh,nj]
theorem Ow (l:List Tree):e_ (l.map nrm)=(e_ l).map nrm:=by
 unfold e_;grind [List.flatMap_map,mh,nj]
theorem Qbe (a b:Tree):vd (nrm a) (nrm b)=vd a b:=by grind [CT,l0]
theorem L3:∀l s:List Tree,fa (s.map nrm) (l.map nrm)=(fa s l).map nrm
 | [],s=>rfl
 | k::l,s=>by
  have h:=L3 l (s++[k]);rw[ZcG] at h;rw[Zbl,fa,fa,List.any_map];have e:((λx=>vd x (nrm k))∘nrm)=λx=>vd x k:=funext λx=>Qbe x k
  grind
theorem WN (o:List Tree):lU (o.map nrm)=nrm (lU o):=by
 unfold lU;rw[Za2];by_cases h:o=[]
 ·subst h;rfl
 ·have a:o.length-1<o.length:=by have:=List.length_pos_iff.mpr h;omega
  grind
def Ox (o:List Tree) (k:Tree):dv (o.map nrm) (nrm k)=(dv o k).map nrm:=by
 unfold dv;rw[WN,mh,mh,WM,WM,Za2];split
 ·rw[List.map_set];congr 1
 ·simp
theorem yF:∀l o:List Tree,bt (o.map nrm) (l.map nrm)=(bt o l).map nrm
 | [],o=>rfl
 | k::l,o=>by rw[Zbl,bt,bt,Ox,yF l]
def WO (l:List Tree):vS (l.map nrm)=(vS l).map nrm:=by
 unfold vS;rw[show fa [] (l.map nrm)=(fa [] l).map nrm from L3 l []];exact yF _ []
theorem L4:∀(n:Nat) (l:List Tree),hV n (l.map nrm)=(hV n l).map nrm
 | 0,l=>by rw[hV,hV,WO]
 | n+1,l=>by
  rw[hV,hV,WO,Za2,Za2];split
  ·exact L4 n _
  ·rfl
mutual
theorem L5:∀t:Tree,p_ (nrm t)=p_ t
 | .mk op r mn mx lz cap nk ks=>by rw[nrm,p_,p_,F3 ks]
theorem F3:∀l:List Tree,kg (oh l)=kg l
 | []=>by rw[oh]
 | t::l=>by rw[oh,kg,kg,L5 t,F3 l]
end
variable {l:List Tree}
theorem WQ (t:Tree):fm (nrm t)=fm t:=by grind [fm,L5]
theorem yG (l:List Tree):(l.map nrm).getD 0 bn=nrm (l.getD 0 bn):=by
 cases l with
 | nil=>rfl
 | cons a l=>rfl
theorem F4 (t:Tree):bs (nrm t)=nrm (bs t):=by grind [bs,nj,yG]
theorem jt (t:Tree) (a:List Tree):nrm (iQ t a)=.mk t.op t.r t.mn t.mx t.lz t.cap a.length (a.map nrm):=by grind [iQ,nrm,gk]
theorem L6 (t:Tree):nrm (byD t)=nrm (byD (nrm t)):=by
 unfold byD;rw[mh];split
 ·unfold Jc;rw[nj,Ow]
  match e_ t.kids with
  | []=>rfl
  | [k]=>exact(l0 k).symm
  | a::b::l=>
   show nrm (iQ t (a::b::l))=nrm (iQ (nrm t) ((a::b::l).map nrm))
   rw[jt,jt,sU,Za2,js t];rfl
 ·split
  ·unfold Jf;rw[nj,JE,Za2,L4]
   match hV (aw 4 t.kids).length (aw 4 t.kids) with
   | []=>show nrm (iQ t [])=nrm (iQ (nrm t) []);rw[jt,jt,js t];rfl
   | [k]=>exact(l0 k).symm
   | a::b::l=>
    show nrm (iQ t (a::b::l))=nrm (iQ (nrm t) ((a::b::l).map nrm))
    rw[jt,jt,sU,Za2,js t];rfl
  ·split
   ·unfold cJ;rw[F4,mh,WQ,F4,mh];have c:(nrm t).mn=t.mn/\(nrm t).mx=t.mx/\(nrm t).lz=t.lz/\(nrm t).cap=t.cap:=by rw[js];exact⟨rfl,rfl,rfl,rfl⟩
    have e2:eN (KX (uV (nrm t)))=eN (KX (uV t)):=by rw[js];cases t;rfl
    have d:eN (KX (nrm (bs t)))=eN (KX (bs t)):=by rw[js];rfl
    rw[c.1,c.2.1,e2,d];split
    ·grind [l0]
    ·split
     ·grind [l0]
     ·split
      ·rfl
      ·split
       ·unfold ET;generalize bs t=k;rw[nrm,nrm,js k];simp only[Tree.op,Tree.r,Tree.mx,Tree.mn,Tree.lz,Tree.cap,Tree.kids,gk,sU,Za2]
       ·have e:∀u,nrm (uV u)=.mk u.op u.r u.mn u.mx (u.lz&&decide (u.mn≠u.mx)) u.cap u.kids.length (u.kids.map nrm):=λu=>by unfold uV;rw[nrm,gk]
        grind [mh,WM,nj,sU]
   ·grind [l0]
theorem uE {op:Int} (h:∀k∈l,eg k):∀k∈aw op l,eg k:=λt ht=>by
 grind [aw,kC]
theorem JF (r:List Rg):eg (pk r):=by
 grind [pk,eg,uD]
theorem uF:∀(l o:List Tree),(∀k∈o,eg k)->(∀k∈l,eg k)->∀k∈bt o l,eg k
 | [],o,h,_=>by assumption
 | a::l,o,h,h2=>by
  rw[bt];refine uF l _ (λk hk=>?_) λk hk=>h2 k (ZaU _ hk)
  grind [dv,JF]
def Oy (h:∀k∈l,eg k):∀k∈jM l,eg k:=by
 rw[<-wa];exact uF _ _ (λk hk=>nomatch hk) λk hk=>h k ((yP l []).subset hk)
theorem yH:∀(n:Nat) (l:List Tree),(∀k∈l,eg k)->∀k∈jN n l,eg k
 | 0,l,h=>h
 | n+1,l,h=>by
  rw[jN];split
  ·exact h
  ·exact yH n _ (Oy h)
theorem uG:∀(l o:List Tree),(o≠[]\/l≠[])->bt o l≠[]
 | [],o,h=>by grind [bt]
 | a::l,o,_=>by
  rw[bt];refine uG l _ (.inl ?_);unfold dv;split
  ·simp_all
  ·simp
theorem Oz (h:l≠[]):jM l≠[]:=by
 rw[<-wa];refine uG _ _ (.inr ?_);cases l with
 | nil=>exact absurd rfl h
 | cons a l=>rw[fa];simp
theorem yI:∀(n:Nat) (l:List Tree),l≠[]->jN n l≠[]
 | 0,l,h=>h
 | n+1,l,h=>by
  rw[jN];split
  ·exact h
  ·exact yI n _ (Oz h)
theorem F5 (b:∀k∈l,eg k) (h:l≠[]):aw 4 l≠[]:=by
 cases l with
 | nil=>exact absurd rfl h
 | cons a l=>
  have c:=(kC a).mp (b a Za8);unfold aw;rw[Zbt];split
  ·simp_all
  ·simp
theorem yJ {op:Int} (h:∀k∈l,eg k) (c:op=3->∀k∈l,k.op≠1):eg (hI op l):=by
 match l,h,c with
 | [],_,_=>rw[hI,eg,uD];exact⟨λh=>absurd h (by decide),λh=>absurd h (by decide),trivial⟩
 | [k],h,_=>exact h k (by simp)
 | a::b::l,h,c=>
  grind [hI,eg,Bc]
theorem WR {t:Tree} (hk:0<t.kids.length) (a:t.op=5) (h:∀k∈t.kids,eg k):eg (cJ t):=by
 have K:eg (bs t):=by grind [bs]
 unfold cJ;split
 ·exact K
 ·split
  ·exact K
  ·split
   ·grind [eg,uD]
   ·split
    ·rw[kC] at K ⊢;exact K
    ·rw[kC];exact⟨λe=>absurd (a.symm.trans e) (by decide),λe=>absurd (a.symm.trans e) (by decide),h⟩
theorem Qbf {t:Tree} (hw:NK ⟨t.op,t.r,t.mn,t.mx,t.lz,t.cap,t.kids.length⟩) (hk:∀k∈t.kids,eg k):nrm (byD t)=nrm (x5 t)/\eg (x5 t):=by
 have i:t.op=3\/t.op=4->t.r=[]/\t.mn=0/\t.mx=0/\t.lz=false/\t.cap=0:=λh=>by
  obtain⟨g,p⟩:=hw;grind [bw,Nb]
 have o:∀{op:Int} {n:List Tree},t.op=op->(op=3\/op=4)->nrm (iQ t n)=nrm (.mk op [] 0 0 false 0 0 n):=λh j=>by
  grind [jt,nrm,gk]
 unfold byD x5;by_cases e:t.op=3
 ·rw[Zac e,Zac e];have f:∀k∈gT (aw 3 t.kids),eg k:=λk c=>uE hk k (List.mem_filter.mp c).1
  constructor
  ·unfold Jc EP;rw[WL hk]
   match gT (aw 3 t.kids) with
   | []=>rfl
   | [k]=>rfl
   | a::b::l=>exact o e (.inl rfl)
  ·unfold EP;refine yJ f λ_ k c=>?_
   have:=(List.mem_filter.mp c).2;grind [vN]
 ·rw[Zaa e,Zaa e];by_cases d:t.op=4
  ·rw[Zac d,Zac d];have j:t.kids≠[]:=by
    have:=hw.alt d;grind
   have f:=yH (aw 4 t.kids).length _ (uE (op:=4) hk);have hs:=yI (aw 4 t.kids).length _ (F5 hk j);constructor
   ·unfold Jf Cg;rw[L1 _ _ (Zah _)];generalize jN (aw 4 t.kids).length (aw 4 t.kids)=L at hs
    match L,hs with
    | [k],_=>rfl
    | a::b::l,_=>exact o d (.inr rfl)
   ·exact yJ f λh=>absurd h (by decide)
  ·rw[Zaa d,Zaa d];by_cases m:t.op=5
   ·rw[Zac m];have:=(hw.rep m).1;grind [WR]
   ·grind [kC]
mutual
noncomputable def fb:Tree->Tree
 | .mk op r mn mx lz cap nk ks=>byD (.mk op r mn mx lz cap nk (cK ks))
noncomputable def cK:List Tree->List Tree
 | []=>[]
 | t::l=>fb t::cK l
end
mutual
theorem Bd:∀t:Tree,kz t->nrm (fb t)=nrm (j8 t)/\eg (j8 t)
 | .mk op r mn mx lz cap nk ks,h=>by
  rw[kz] at h
  obtain⟨i1,i2⟩:=rz ks h.2.2
  have hl:=qd ks
  obtain⟨b1,b2⟩:=Qbf (t:=.mk op r mn mx lz cap nk (dm ks)) (by simp only[Tree.kids];rw[hl];exact h.1) i2
  rw[fb,j8]
  refine⟨?_,b2⟩
  rw[<-b1,L6,L6 (.mk op r mn mx lz cap nk (dm ks))]
  have:nrm (.mk op r mn mx lz cap nk (cK ks))=nrm (.mk op r mn mx lz cap nk (dm ks)):=by
   rw[nrm,nrm,gk,gk,i1]
   have:=ZaR List.length i1
   rw[Za2,Za2] at this
   rw[this]
  rw[this]
theorem rz:∀l:List Tree,mm l->(cK l).map nrm=(dm l).map nrm/\∀k∈dm l,eg k
 | [],_=>⟨by rw[cK,dm],λk hk=>by rw[dm] at hk;cases hk⟩
 | t::l,h=>by
  rw[mm] at h
  obtain⟨a1,a2⟩:=Bd t h.1
  obtain⟨b1,b2⟩:=rz l h.2
  rw[cK,dm]
  refine⟨by rw[Zbl,Zbl,a1,b1],λk hk=>?_⟩
  rcases List.mem_cons.mp hk with e | e
  ·rw[e];exact a2
  ·exact b2 k e
end
def Be {t:Tree} (h:kz t):ay (fb t)=ay (j8 t):=(yD _ _).mpr (Bd t h).1
end
end sx
namespace sx
open Go Go.RowKit cls syn sl
noncomputable abbrev H0:Hp D:=λt=>ch [] t
structure Qs (F:List Nat) (M:Pm D) (w:World) (M':Pm D) (w':World):Prop where
 le:Le M M'
 gn:ey M' H0 w'
 pl:∀b,M'.pl b=M.pl b
 sb:∀b o,M'.sg b o≠none->M.sg b o≠none\/w.heap.size<=b\/b∈F
 size:w.heap.size<=w'.heap.size
 aH:∀c,c<w.heap.size->c ∉ F->w'.heap[c]?=w.heap[c]?
 os:w'.os=w.os
 tape:w'.tape=w.tape
 output:w'.output=w.output
variable {F F':List Nat} {M M' M'':Pm D} {w w' w'':World}
theorem Qs.refl (h:ey M H0 w):Qs F M w M w:=⟨lZ M,h,λ_=>rfl,λ_ _ h=>.inl h,Zah _,λ_ _ _=>rfl,rfl,rfl,rfl⟩
theorem Qs.trans (h:Qs F M w M' w') (k:Qs F' M' w' M'' w'') (a:∀c∈F',c∈F\/w.heap.size<=c):Qs F M w M'' w'' where
 le:=⟨λb m e=>k.le.1 b m (h.le.1 b m e),λb o v e=>k.le.2 b o v (h.le.2 b o v e)⟩
 gn:=k.gn
 pl b:=(k.pl b).trans (h.pl b)
 sb b o e:=by
  rcases k.sb b o e with e | e | e
  ·exact h.sb b o e
  ·exact .inr (.inl (Zav h.size e))
  ·grind
 size:=Zav h.size k.size
 aH c hc hn:=(k.aH c (ZbB hc h.size) λe=>(a c e).elim hn λh=>ω).trans (h.aH c hc hn)
 os:=k.os.trans h.os
 tape:=k.tape.trans h.tape
 output:=k.output.trans h.output
theorem Qs.OI (a:cL H0 M w H0 M' w' 0 0):Qs F M w M' w' where
 le:=⟨λb m e=>(a.ext b ω).trans e,a.J3⟩
 gn:=a.gn
 pl b:=a.ext b ω
 sb b o e:=by
  rcases a.lJ b o e with e | e | ⟨c,f,d,h1,_⟩
  ·grind
  ·omega
  ·cases h1
 size:=a.size
 aH c hc _:=a.aH c hc λ⟨c,f,d,h1,_⟩=>by cases h1
 os:=a.os
 tape:=a.tape
 output:=a.output
def Qs.QmH (h:ey M H0 w) (hs:w.heap.size<=w'.heap.size) (g:w'.os=w.os) (ht:w'.tape=w.tape) (hu:w'.output=w.output) (hk:∀c,c<w.heap.size->c ∉ F->w'.heap[c]?=w.heap[c]?) (f:∀c∈F,D.ng<=c/\∀o,M.sg c o=none):Qs F M w M w':=
 ⟨lZ M,⟨λb o e=>(by cases e),λ_ _ _ _ _ _ e=>(by cases e),λb o v e=>let ⟨i,k,d,j⟩:=h.gE b o v e;⟨i,k,(kG (hk b (h.slt e) λa=>by rw[(f b a).2] at e;cases e)).trans d,j⟩,λ_ _ _ e=>(by cases e),λ_ _ _ _ _ e=>(by cases e),
  ⟨Zav h.ml.1.1 hs,D.gst _ _ (λc d=>hk c (ZbB d h.ml.1.1) λa=>by have:=(f c a).1;omega) h.ml.1.2⟩,λ_ _ _ e=>(by cases e)⟩,λ_=>rfl,λ_ _ h=>.inl h,hs,hk,g,ht,hu⟩
theorem Qs.gE {g:Nat} {ys:List Tree} (h:ey M H0 w) (j:∀o,M.sg g o=none) (m:g∈F)
  (f:∀i v,(aM (D:=D) 15 ys)[i]?=some v->∃a,w.cell? ⟨g,i,none⟩=some a/\VR M v a):Qs F M w ⟨M.pl,cV M.sg g 0 (aM 15 ys)⟩ w:=by
 have hle:Le M ⟨M.pl,cV M.sg g 0 (aM 15 ys)⟩:=⟨λ_ _ h=>h,kJ λq _ _=>j q⟩;refine⟨hle,⟨λb o e=>(by cases e),λ_ _ _ _ _ _ e=>(by cases e),λb q v e=>?_,λ_ _ _ e=>(by cases e),λ_ _ _ _ _ e=>(by cases e),⟨h.ml.1,λ_ _ _ e=>(by cases e)⟩⟩,λ_=>rfl,λb q e=>?_,Zah _,λ_ _ _=>rfl,rfl,rfl,rfl⟩
 ·replace e:cV M.sg g 0 (aM 15 ys) b q=some v:=e;unfold cV at e;split at e
  ·rename_i d
   obtain⟨rfl,h1,l⟩:=d;obtain⟨a,c,e2⟩:=f _ v e;rw[Zdp] at c;exact⟨(dX jU (ZaJ e)).2,a,c,e2.mono hle⟩
  ·obtain⟨k,a,c,e2⟩:=h.gE b q v e;exact⟨k,a,c,e2.mono hle⟩
 ·grind [mD]
theorem WS {a:Value} {l:List E8} {ys:List Tree} (h:ey M H0 w) (p:qC w a l) (m:LR M (aM (D:=D) 15 ys) (flat e8 l)) (j:∀c∈gW a,∀o,M.sg c o=none) (hl:l.length=ys.length):∃f,Qs (gW a) M w f w/\VR f (.list 15 ys) a:=by
 rcases p.2 with⟨rfl,d⟩ | ⟨g,cap,cur,rfl,d,q,r,k,s,t⟩
 ·rw[hl] at d;rw[Zap d];exact⟨M,.refl h,.fh⟩
 ·have n:gW (.slice (some ⟨g,0,none⟩) l.length cap)=[g]:=rfl;rw[n] at j ⊢;refine⟨_,Qs.gE (ys:=ys) h (j g (ZaI.2 rfl)) (ZaI.2 rfl) λi v e=>?_,?_⟩
  ·obtain⟨y,u,x⟩:=m.get e;grind [World.cell?]
  ·rw[hl];exact VR.list (b:=g) (o:=0) (ck.add jU) (show ys.length<=9223372036854775807 by unfold maxLen at k;omega) (show ys.length<=cap by omega)
theorem Bf:∀l:List Tree,(e_ l).length<=(au l).length
 | []=>Zaj _
 | k::l=>by
  have h:=Bf l;grind [cU,bJ,e_,tF]
theorem om:∀l:List Tree,(cK l).length=l.length
 | []=>by rw[cK]
 | t::l=>by rw[cK,Zae,om l,Zae]
def QmI {op:Int} {r:List Rg} {mn mx:Int} {lz:Bool} {cap:Int} {a:List Tree} (hw:kz (.mk op r mn mx lz cap (a.length:Int) a)) (ht:dG (.mk op r mn mx lz cap (a.length:Int) a)):
  (op=3->Jd.pre (.mk op r mn mx lz cap (a.length:Int) (cK a)))/\(op=4->Jg.pre (.mk op r mn mx lz cap (a.length:Int) (cK a)))/\(op=5->Jh.pre (.mk op r mn mx lz cap (a.length:Int) (cK a))):=by
 have hi:=(jz _).mp (E4 _ hw);have hk:=ht.kids;obtain⟨o,b⟩:=nU a hi.2 ⟨Zah _,hk.2⟩;rw[kz] at hw;obtain⟨j,v⟩:=rz a hw.2.2;have e:au (cK a)=au (dm a):=by rw[<-qk,gk,j,<-gk,qk]
 rw[<-e] at b;have hl:=om a;have i:dH (cK a):=⟨Zav b.1 hk.1,b.2⟩;have m:a.length<=1000000:=hk.len;refine⟨λ_=>⟨by show(cK a).length<=_;omega,Zav (Bf _) i.1⟩,λ_=>⟨by show(cK a).length<=_;omega,?_⟩,λh=>⟨?_,h⟩⟩
 ·have:=yr 4 _ _ b;exact⟨Zav this.1 hk.1,this.2⟩
 ·obtain⟨b1,k⟩:=hi.1 h;have b1:1<=a.length:=b1;have c:0<(cK a).length:=ω;refine⟨by show 1<=(cK a).length;omega,i.get c,k,λl=>?_⟩;have d:0<(dm a).length:=by rw[qd];omega
  have f:nrm ((cK a).getD 0 bn)=nrm ((dm a).getD 0 bn):=by rw[<-yG,j,yG]
  have g:sF ((dm a).getD 0 bn):=by rw[bk d];exact(kh _).mp o _ (Zas _)
  have n:((dm a).getD 0 bn).op=5:=by rw[<-mh,<-f,mh];exact l
  obtain⟨c1,c2⟩:=((jz _).mp g).1 n;rw[js,js] at f;injection f with p q s t u n6 n7 n8
  refine⟨?_,?_⟩
  ·show 0<=((cK a).getD 0 bn).mn
   omega
  ·show 1<=((cK a).getD 0 bn).kids.length
   omega
end sx
end Go.Proofs.YtadfknojfbmjgaaGreat
