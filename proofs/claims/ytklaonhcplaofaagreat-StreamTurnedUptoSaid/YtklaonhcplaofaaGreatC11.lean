/- StreamTurned: a part of the proof. -/
import Derived.Test.YtklaonhcplaofaaGreatC5
import Derived.Test.YtklaonhcplaofaaGreatC10
import Derived.Test.YtklaonhcplaofaaGreatC8
import Derived.Lib.MinMax
import Derived.Deep.DeepMust
import Derived.RegionTactic
import Derived.Laws.ResultCell
import Derived.Deep.RegionHeld3
import Derived.Maps.OwnOps
import Derived.Maps.Views
import Derived.Maps.OwnSet
set_option linter.all false
namespace Go.Proofs.YtklaonhcplaofaaGreat
open Go.Proofs.Tryz
namespace sx
open Go Go.RowKit cls syn sl
abbrev E8:={l:List Value // l.length=8/\∀u∈l,u.oneCell'=true}
def e8 (x:E8):List Value:=x.1
def Ih (x:E8):(e8 x).length=8:=x.2.1
def QdG (x:E8):∀u∈e8 x,u.oneCell':=x.2.2
def Z2:lI prog 165 167 8 96:=lI.mk' (z:=.agg #[.int .i64 0,.slice none 0 0,.int .i64 0,.int .i64 0,.bool false,.int .i64 0,.int .i64 0,.slice none 0 0]) Tryz.underlying165 (by kernel_rfl) rfl (by decide)
abbrev pX (w:World) (v:Value) (l:List E8):Prop:=jK e8 8 167 0 w v l
def gJ (v:Value):List Nat:=match v.ownBlock with
 | some b=>[b]
 | none=>[]
mutual
def TA (M:Pm D) (w:World):ah->E8->List Nat->Prop
 | .mk op r mn mx lz cap nk ks,x,F=>∃(vr kv:Value) (l:List E8) (G:List Nat),x.1=[.int .i64 op,vr,.int .i64 mn,.int .i64 mx,.bool lz,.int .i64 cap,.int .i64 nk,kv]/\VR M (.list 6 r) vr/\(iY .i64 op&&iY .i64 mn&&iY .i64 mx&&iY .i64 cap&&iY .i64 nk)=true/\
  pX w kv l/\F=gJ kv++G/\KA M w ks l G
def KA (M:Pm D) (w:World):List ah->List E8->List Nat->Prop
 | [],l,F=>l=[]/\F=[]
 | t::ts,l,F=>∃(x:E8) (l':List E8) (F1 F2:List Nat),l=x::l'/\F=F1++F2/\TA M w t x F1/\KA M w ts l' F2
end
theorem mE {w a:World} {v:Value} {l:List E8} (h:pX w v l) (hk:∀b∈gJ v,b<w.heap.size->a.heap[b]?=w.heap[b]?):pX a v l:=by
 refine⟨h.1,?_⟩;rcases h.2 with c | ⟨g,cap,aX,rfl,c,d,e⟩
 ·grind
 ·grind [gJ,Value.ownBlock]
mutual
theorem vk {M M':Pm D} {w w':World} (hM:Le M M'):∀(t:ah) (x:E8) (F:List Nat),TA M w t x F->(∀b∈F,b<w.heap.size->w'.heap[b]?=w.heap[b]?)->TA M' w' t x F
 | .mk op r mn mx lz cap nk ks,x,F,h,hk=>by
  rw[TA] at h ⊢
  obtain⟨vr,kv,l,G,h1,h2,h3,h4,rfl,h6⟩:=h
  exact⟨vr,kv,l,G,h1,h2.mono hM,h3,mE h4 λb hb=>hk b (Zay _ hb),rfl,pK hM ks l G h6 λb hb=>hk b (ZaC _ hb)⟩
theorem pK {M M':Pm D} {w w':World} (hM:Le M M'):∀(ts:List ah) (l:List E8) (F:List Nat),KA M w ts l F->(∀b∈F,b<w.heap.size->w'.heap[b]?=w.heap[b]?)->KA M' w' ts l F
 | [],l,F,h,_=>by rw[KA] at h ⊢;exact h
 | t::ts,l,F,h,hk=>by
  rw[KA] at h ⊢
  obtain⟨x,l',F1,F2,h1,rfl,h3,h4⟩:=h
  exact⟨x,l',F1,F2,h1,rfl,vk hM t x F1 h3 λb hb=>hk b (Zay _ hb),pK hM ts l' F2 h4 λb hb=>hk b (ZaC _ hb)⟩
end
variable {w:World} {M:Pm D} {v:Value} {b:Nat} {Z:TypeId} {a:List Nat} {Y:Array Value} {X:Program}
theorem Ii:∀{a:List ah} {l:List E8} {F:List Nat},KA M w a l F->l.length=a.length
 | [],l,F,h=>by rw[KA] at h;rw[h.1];rfl
 | t::a,l,F,h=>by
  rw[KA] at h;obtain⟨x,e,c,d,rfl,_,_,b⟩:=h;simp[Ii b]
theorem U0 {t:ah} {x:E8} (c:TA M w t x a):∀{b:List ah} {l:List E8} {F:List Nat},KA M w b l F->KA M w (b++[t]) (l++[x]) (F++a)
 | [],l,F,h=>by
  rw[KA] at h;obtain⟨rfl,rfl⟩:=h;exact⟨x,[],a,[],rfl,by simp,c,by rw[KA];exact⟨rfl,rfl⟩⟩
 | u::b,l,F,h=>by
  rw[KA] at h;obtain⟨y,i,d,e,rfl,rfl,f,g⟩:=h;rw[Za1,KA];exact⟨y,i++[x],d,e++a,rfl,by rw[ZaD],f,U0 c g⟩
theorem iy {fr:Nat×Nat} (a:w.heap[b]?=some (.cells Y Z fr)) (j:Nat):w.cell? ⟨b,j,none⟩=Y[j]?:=by simp[World.cell?,a]
theorem KG (a:w.heap[b]?=some (.cells Y Z (0,0))) (j:Nat):w.frozen? ⟨b,j,none⟩=false:=by simp[World.frozen?,a]
def r9 (h:b=w.heap.size) (o:Obj):(w.alloc o).heap[b]?=some o:=by subst h;exact heap_alloc_new w o
def ec {k:IntKind} {n:Int} (h:VR M (.int k n) v):v=.int k n/\iY k n:=by cases h with | int h=>exact⟨rfl,h⟩
def nB {b:Bool} (h:VR M (.bool b) v):v=.bool b:=by cases h;rfl
def Au {c:List (D.E b)} (h:VR M (.list b c) v):∃a n k,v=.slice a n k:=by cases h<;>exact⟨_,_,_,rfl⟩
def xN {t:ah} {x:E8} (h:TA M w t x a):∃F n c b g d,x.1=[.int .i64 t.op,.slice F n c,.int .i64 t.mn,.int .i64 t.mx,.bool t.lz,.int .i64 t.cap,.int .i64 t.nk,.slice b g d]:=by
 cases t;rw[TA] at h;obtain⟨o,m,l,G,h1,e,i,f,j,k⟩:=h;obtain⟨_,_,_,rfl⟩:=Au e;obtain⟨_,_,rfl,_⟩:=f.rd;exact⟨_,_,_,_,_,_,h1⟩
def U1 {fn:Func} {p u:Tmp} (h:fn.results=#[.cell p Z,.tmp u]) (tmps:Array Value) {a:Addr} (b:tmps.getD p Go.undef=.pointer (some a)) (c:(loadVar Z a).run X w=.ok v w):(results fn tmps).run X w=.ok (.tuple #[v,tmps.getD u Go.undef]) w:=by
 rw[results_cell_tmp h,b];simp[asAddr,c]
def pL {fn:Func} {p:Tmp} (h:fn.results=#[.cell p Z]) (tmps:Array Value) {a:Addr} (c:tmps.getD p Go.undef=.pointer (some a)) (d:(loadVar Z a).run X w=.ok v w):(results fn tmps).run X w=.ok v w:=by
 have b:tmps[p]?.getD Go.undef=.pointer (some a):=by simpa using c
 simp[results,h,b,asAddr,d]
abbrev EH (w:World) (b:Nat) (a c d v3 e v5 f g:Value):World:=(((((((w.setCell ⟨b,0,none⟩ a).setCell ⟨b,1,none⟩ c).setCell ⟨b,2,none⟩ d).setCell ⟨b,3,none⟩ v3).setCell ⟨b,4,none⟩ e).setCell ⟨b,5,none⟩ v5).setCell ⟨b,6,none⟩ f).setCell ⟨b,7,none⟩ g
variable {w:World} {b i:Nat} {v:Value} {N:Array Value} {M:TypeId} {a:Nat×Nat}
variable {k:Nat}
theorem heap_set (h:w.heap[b]?=some (.cells N M a)):(w.setCell ⟨b,i,none⟩ v).heap[b]?=some (.cells (N.setIfInBounds i v) M a):=by
 grind [World.setCell]
def jL (h:k≠b):(w.setCell ⟨b,i,none⟩ v).heap[k]?=w.heap[k]?:=Below.heap_setCell _ _ _ _ h
theorem Av {v0 v1 v2 v3 v4 v5 v6 v7:Value} (h:w.heap[b]?=some (.cells N M a)) (hs:N.size=8):(EH w b v0 v1 v2 v3 v4 v5 v6 v7).heap[b]?=some (.cells #[v0,v1,v2,v3,v4,v5,v6,v7] M a):=by
 unfold EH;rw[heap_set (heap_set (heap_set (heap_set (heap_set (heap_set (heap_set (heap_set h)))))))];obtain⟨l⟩:=N;obtain⟨a0,l,rfl⟩:=ZaB (show l.length=7+1 from hs);obtain⟨c,l,rfl⟩:=ZaB (show l.length=6+1 by simpa using hs);obtain⟨a2,l,rfl⟩:=ZaB (show l.length=5+1 by simpa using hs);obtain⟨a3,l,rfl⟩:=ZaB (show l.length=4+1 by simpa using hs);obtain⟨a4,l,rfl⟩:=ZaB (show l.length=3+1 by simpa using hs);obtain⟨a5,l,rfl⟩:=ZaB (show l.length=2+1 by simpa using hs);obtain⟨d,l,rfl⟩:=ZaB (show l.length=1+1 by simpa using hs);obtain⟨e,l,rfl⟩:=ZaB (show l.length=0+1 by simpa using hs);simp_all
def xO {v0 v1 v2 v3 v4 v5 v6 v7:Value} (h:k≠b):(EH w b v0 v1 v2 v3 v4 v5 v6 v7).heap[k]?=w.heap[k]?:=by
 unfold EH;rw[jL h,jL h,jL h,jL h,jL h,jL h,jL h,jL h]
theorem kL {v0 v1 v2 v3 v4 v5 v6 v7:Value}:Below b w (EH w b v0 v1 v2 v3 v4 v5 v6 v7):=by
 unfold EH;have k:∀(W:World) (i:Nat) (v:Value),Below b w W->Below b w (W.setCell ⟨b,i,none⟩ v):=λW i v h=>h.setCell (Zah _) v
 grind [Below.refl]
def nodeAt {M:Pm D} {y:List Nd} (h:Rd M w b i (aW (D:=D) 7 y)) {x:Nd} (e:y[k]?=some x):
  ∃a,VR M (.list 6 x.r) a/\(iY .i64 x.op&&iY .i64 x.mn&&iY .i64 x.mx&&iY .i64 x.cap&&iY .i64 x.af)/\
   w.cell? ⟨b,i+k*7,none⟩=some (.int .i64 x.op)/\w.cell? ⟨b,i+k*7+1,none⟩=some a/\w.cell? ⟨b,i+k*7+2,none⟩=some (.int .i64 x.mn)/\w.cell? ⟨b,i+k*7+3,none⟩=some (.int .i64 x.mx)/\
   w.cell? ⟨b,i+k*7+4,none⟩=some (.bool x.lz)/\w.cell? ⟨b,i+k*7+5,none⟩=some (.int .i64 x.cap)/\w.cell? ⟨b,i+k*7+6,none⟩=some (.int .i64 x.af):=by
 obtain⟨hi,rfl⟩:=Zam.1 e;have o:=jY gE h hi;obtain⟨z,a0,f⟩:=o 0 _ rfl;obtain⟨v,c,b1⟩:=o 1 _ rfl;obtain⟨A,a2,g⟩:=o 2 _ rfl;obtain⟨v3,a3,j⟩:=o 3 _ rfl;obtain⟨B,a4,l⟩:=o 4 _ rfl;obtain⟨v5,a5,m⟩:=o 5 _ rfl;obtain⟨C,d,n⟩:=o 6 _ rfl;obtain⟨rfl,p⟩:=ec f;obtain⟨rfl,q⟩:=ec g;obtain⟨rfl,s⟩:=ec j;obtain rfl:=nB l;obtain⟨rfl,t⟩:=ec m;obtain⟨rfl,u⟩:=ec n;exact⟨v,b1,by simp only[ZaW];exact⟨⟨⟨⟨p,q⟩,s⟩,t⟩,u⟩,a0,c,a2,a3,a4,a5,d⟩
def vp {l:List E8} (h:pX w v l):∀c∈gJ v,c<w.heap.size:=λc a=>by
 unfold gJ at a;split at a
 ·rename_i e
  rw[ZaI.1 a];exact(h.lt _ e).2
 ·cases a
mutual
theorem Qa5 {M:Pm D} {w:World}:∀(t:ah) (x:E8) (F:List Nat),TA M w t x F->∀c∈F,c<w.heap.size
 | .mk op r mn mx lz cap nk ks,x,F,h=>by
  rw[TA] at h
  obtain⟨vr,kv,l,G,h1,h2,h3,h4,rfl,h6⟩:=h
  exact λc hc=>(Zax.1 hc).elim (vp h4 c) (U2 ks l G h6 c)
theorem U2 {M:Pm D} {w:World}:∀(ts:List ah) (l:List E8) (F:List Nat),KA M w ts l F->∀c∈F,c<w.heap.size
 | [],l,F,h=>by rw[KA] at h;rw[h.2];exact λc hc=>nomatch hc
 | t::ts,l,F,h=>by
  rw[KA] at h
  obtain⟨x,l',F1,F2,h1,rfl,h3,h4⟩:=h
  exact λc hc=>(Zax.1 hc).elim (Qa5 t x F1 h3 c) (U2 ts l' F2 h4 c)
end
def ly (M:Pm D):Le M M:=⟨λ_ _ h=>h,λ_ _ _ h=>h⟩
def r_ {v:Value} {c:Nat} (h:v.ownBlock=some c):c∈gJ v:=by unfold gJ;rw[h];exact ZaI.2 rfl
theorem U3 {M:Pm D} {wr k b:World} {n1:Nat} {g:Value} {l:List E8} {G:List Nat} {E:List ah} {C:ah} {r:E8} {n:List Nat} {B N:Obj} {a m o:Nat} {u:Value}
  (Q:pX wr g l) (v:KA M wr E l G) (x:(gJ g++G).Nodup) (t:∀c∈gJ g++G,n1+1<=c/\c<wr.heap.size) (da:n1+1<=wr.heap.size) (z:Below wr.heap.size wr k) (q:TA M k C r n) (K:n.Nodup) (s:∀c∈n,wr.heap.size<=c)
  (f:pX b (.slice (some ⟨a,0,none⟩) m o) (l++[r])) (A:((k.alloc B).alloc N).grownBy b g.ownBlock) (i:sl.bT (k.alloc B) g (.slice (some ⟨a,0,none⟩) m o)):
  pX (b.setCell ⟨n1,7,none⟩ u) (.slice (some ⟨a,0,none⟩) m o) (l++[r])/\KA M (b.setCell ⟨n1,7,none⟩ u) (E++[C]) (l++[r]) (G++n)/\(gJ (.slice (some ⟨a,0,none⟩) m o)++(G++n)).Nodup/\
   ∀c∈gJ (.slice (some ⟨a,0,none⟩) m o)++(G++n),n1+1<=c/\c<(b.setCell ⟨n1,7,none⟩ u).heap.size:=by
 have hs:=z.size;have y:=A.size;simp only[World.alloc,ZcH] at y;have L:(b.setCell ⟨n1,7,none⟩ u).heap.size=b.heap.size:=by simp[World.setCell]
 have h:gJ (.slice (some ⟨a,0,none⟩) m o)=[a]:=rfl;have I:n1+1<=a/\(a∈gJ g\/k.heap.size+1<=a):=by
  rcases i with i | i | ⟨j,i,P⟩
  ·have:a∈gJ g:=r_ i.symm;simp_all
  ·cases i
  ·cases i;grind [World.alloc]
 have J:a<b.heap.size:=vp f a (by rw[h];simp);have O:=Qa5 _ _ _ q;have d:∀c,n1+1<=c->c<k.heap.size->c ∉ gJ g->(b.setCell ⟨n1,7,none⟩ u).heap[c]?=k.heap[c]?:=λc h1 F H=>by
  rw[Below.heap_setCell _ _ _ _ (by show c≠n1;omega),A.block c (by simp only[World.alloc,ZcH];omega) (λe=>H (r_ e.symm)),Below.heap_alloc _ _ _ (by simp only[World.alloc,ZcH];omega),Below.heap_alloc _ _ _ F]
 have w:=ZbR.1 x;refine⟨mE f λc p _=>Below.heap_setCell _ _ _ _ (by rw[h,ZaI] at p;show c≠n1;omega),U0 (vk (ly M) _ _ _ q λc p hl=>d c (by have:=s c p;omega) hl λhk=>?_) (pK (ly M) _ _ _ v λc p hl=>(d c (t c (ZaC _ p)).1 ω λhk=>w.2.2 c hk c p rfl).trans (z.block c hl)),?_,?_⟩
 ·grind
 ·rw[h,List.singleton_append,List.nodup_cons,ZbR];grind
 ·grind
set_option maxHeartbeats 4000000 in
theorem Z3 {M:Pm D} {y:List Nd} {b o cap:Nat} (hl:y.length<=1000000) (E:y.length<=cap):∀(n:Nat) (t:ah) (at_:Nat) (rest:List Nd) (w:World),(aD t).length<=n->j3 t->y.drop at_=aD t++rest->Rd M w b o (aW (D:=D) 7 y)->b<w.heap.size->
  Calls prog 74 #[.slice (some ⟨b,o,none⟩) y.length cap,.int .i64 at_] w λe w'=>∃(x:E8) (F:List Nat),e=.returned (.tuple #[.agg x.1.toArray,.int .i64 ((at_+(aD t).length:Nat):Int)])/\TA M w' t x F/\F.Nodup/\(∀c∈F,w.heap.size<=c)/\Below w.heap.size w w':=by
 intro n
 induction n with
 | zero=>
  intro t at_ rest w h
  cases t
  grind [aD]
 | succ n ih=>
  intro t at_ rest w hn hw hd hR hb
  obtain⟨op,r,mn,mx,lz,cap,nk,a⟩:=t
  rw[aD] at hn hd
  rw[j3] at hw
  obtain⟨_,rfl,X⟩:=hw
  have ha:at_<y.length:=by
   grind [List.drop_eq_nil_of_le]
  have hx:y[at_]?=some ⟨op,r,mn,mx,lz,cap,a.length⟩:=by
   have:=ZaR (λl=>l[0]?) hd
   grind
  obtain⟨vr,hvr,hin,c0,c1,c2,c3,c4,c5,c6⟩:=nodeAt hR hx
  obtain⟨H,rn,rc,rfl⟩:=Au hvr
  have HX:=Lib.hid (p:=Rd M w b o (aW (D:=D) 7 y)) hR
  clear hR hx
  go_enter Tryz.func74,Tryz.ntmps74
  go_wp2_with fail
  have hzs:w.heap.size<w.heap.size+2:=ω
  go_loopg [1,7] a.length (λg p i wr=>∃(k:Nat) (R:Value) (l:List E8) (G:List Nat),k<=a.length/\g=a.length-k/\p=.int .i64 ((at_+1+(aA (a.take k)).length:Nat):Int)/\i=.int .i64 k/\
   wr.heap[w.heap.size]?=some (.cells #[.int .i64 0,.slice none 0 0,.int .i64 0,.int .i64 0,.bool false,.int .i64 0,.int .i64 0,.slice none 0 0] 167 (0,0))/\
   wr.heap[w.heap.size+1]?=some (.cells #[.int .i64 op,.slice H rn rc,.int .i64 mn,.int .i64 mx,.bool lz,.int .i64 cap,.int .i64 a.length,R] 167 (0,0))/\
   pX wr R l/\KA M wr (a.take k) l G/\(gJ R++G).Nodup/\(∀c∈gJ R++G,w.heap.size+2<=c/\c<wr.heap.size)/\w.heap.size+2<=wr.heap.size/\Below w.heap.size w wr)
  case atStart=>
   refine⟨0,_,[],[],ω,rfl,by rw[ZcA,aA];go_num,rfl,?_,?_,jK.nil _ _ _ _ _,by rw[ZcA,KA];exact⟨rfl,rfl⟩,by simp[gJ,Value.ownBlock],by simp[gJ,Value.ownBlock],by simp,?_⟩
   ·grind [Below.heap_alloc,heap_alloc_new]
   ·exact r9 (by simp) _
   ·exact((Below.refl _ _).alloc (Zah _) _).alloc (by simp) _
  case round=>
   obtain⟨k,R,l,G,hk,rfl,rfl,rfl,hz,q,ho,N,O,L,da,hbl⟩:=hrel
   have A:=Ii N
   replace A:l.length=k:=by rw[A,Zar];omega
   have d6:wr.cell? ⟨w.heap.size+1,6,none⟩=some (.int .i64 a.length):=by simp[World.cell?,q]
   have d7:wr.cell? ⟨w.heap.size+1,7,none⟩=some R:=by simp[World.cell?,q]
   obtain⟨d,f,rfl,hrd,_⟩:=ho.rd
   rw[A] at ho O L d7 q
   have HL:=Lib.hid A
   have H1:=Lib.hid hz
   have H2:=Lib.hid q
   have H3:=Lib.hid ho
   have H4:=Lib.hid N
   have H5:=Lib.hid O
   have J:=Lib.hid L
   have H7:=Lib.hid hbl
   have H8:=Lib.hid X
   have H9:=Lib.hid hd
   clear hz q ho N O L hrd hd X A
   have hL:a.length<=y.length:=by
    have h1:=ZaR List.length H9.out
    grind [s6]
   by_cases hlt:k<a.length
   ·obtain⟨I,C⟩:∃I,a[k]?=some I:=⟨_,Zaf hlt⟩
    have ht:aA a=aA (a.take k)++(aD I++aA (a.drop (k+1))):=by
     grind [ei,cz,List.drop_eq_getElem_cons,List.take_append_drop]
    have htk:aA (a.take (k+1))=aA (a.take k)++aD I:=by rw[Zcr,C];exact xp _ _
    have hwt:j3 I:=(pH a).1 H8.out I (ZaJ C)
    have U:y.drop (at_+1+(aA (a.take k)).length)=aD I++(aA (a.drop (k+1))++rest):=by
     have h1:=ZaR (List.drop (1+(aA (a.take k)).length)) H9.out
     grind [List.drop_drop]
    have z:=ih I (at_+1+(aA (a.take k)).length) _ wr (by rw[ht] at hn;simp only[Zae,Zab] at hn;omega) hwt U (λi v e=>let ⟨v',a1,a2⟩:=HX.out i v e;⟨v',(H7.out.cell (p:=⟨b,o+i,none⟩) hb).trans a1,a2⟩) ω
    have HT:=Lib.hid ht
    have HK:=Lib.hid htk
    have HX':=Lib.hid C
    clear ht htk C U hwt
    generalize hm:(aA (a.take k)).length=m at z
    have HM:=Lib.hid hm
    clear hm
    go_wp2_with fail
    refine z.mono ?_
    rintro e w1 ⟨x1,F1,rfl,Q,Y,V,kP⟩
    obtain⟨qa,qn,qc,pa,pn,pc,ex⟩:=xN Q
    rw[ex]
    have G1:=Lib.hid Q
    have G2:=Lib.hid Y
    have G3:=Lib.hid V
    have G4:=Lib.hid kP
    have G5:=Lib.hid ex
    have hs1:=kP.size
    have Z:pX w1 (.slice d k f) l:=H3.out.below kP (Zah _)
    have s:=(kP.block (w.heap.size+1) ω).trans H2.out
    have d7:w1.cell? ⟨w.heap.size+1,7,none⟩=some (.slice d k f):=by rw[iy s];rfl
    have O1:=Lib.hid Z
    have B1:=Lib.hid s
    have hs2:w.heap.size+1<w1.heap.size:=ω
    have hs3:w.heap.size+1<w1.heap.size+1:=ω
    have hlm:l.length<1000000000:=by rw[HL.out];omega
    clear Q Y V kP ex Z s
    go_wp2_with (at_builtin;go_must (refine B7 (bd:=e8) (v:=.slice d k f) Z2 rfl rfl rfl rfl (by simp) (O1.out.alloc _) x1 G5.out.symm Ih QdG hlm (by decide) (Zaj _) ?_);intro v2 w2 o2 g2 f2;go_must (obtain⟨g',cp,rfl,_⟩:=o2.form (by simp);have B:=(g2.block (w.heap.size+1) (by simp;omega) (λe=>by have:=(J.out _ (Zay _ (by unfold gJ;rw[<-e];exact ZaI.2 rfl))).1;omega)).trans ((Below.heap_alloc _ _ _ (by simp;omega)).trans ((Below.heap_alloc _ _ _ hs2).trans B1.out));have d8:w2.cell? ⟨w.heap.size+1,7,none⟩=some (.slice d k f):=iy B 7;have f8:w2.frozen? ⟨w.heap.size+1,7,none⟩=false:=KG B 7;have B2:=Lib.hid B;have O2:=Lib.hid o2;have G6:=Lib.hid g2;have G7:=Lib.hid f2;clear B o2 g2 f2))
    go_roundg (a.length-(k+1))
    case measure=>omega
    case rel=>
     have hE:(l++[x1]).length=l.length+1:=by simp
     have hr:=U3 (u:=.slice (some ⟨g',0,none⟩) (l.length+1) cp) H3.out H4.out H5.out (n1:=w.heap.size+1) (λc E=>J.out c E) da G4.out G1.out G2.out G3.out O2.out G6.out G7.out
     rw[hE] at hr
     refine⟨k+1,_,_,_,ω,rfl,?_,by go_num,?_,?_,hr.1,?_,hr.2.2.1,hr.2.2.2,?_,?_⟩
     ·rw[HK.out,Zab,HM.out];go_num
     ·rw[Below.heap_setCell _ _ _ _ (by show w.heap.size≠w.heap.size+1;omega),G6.out.block _ (by simp;omega) (λe=>by have:=(J.out _ (Zay _ (r_ e.symm))).1;omega),Below.heap_alloc _ _ _ (by simp;omega),Below.heap_alloc _ _ _ ω,G4.out.block _ ω];exact H1.out
     ·simp only[World.setCell,ZbF,Zac,B2.out,Zcp];rfl
     ·rw[Zcr,HX'.out];exact hr.2.1
     ·have:=G6.out.size;simp only[World.alloc,ZcH] at this;simp only[World.setCell,Array.size_modify];omega
     ·exact((H7.out.trans (G4.out.mono ω)).trans (((Below.refl w.heap.size w1).alloc ω _).alloc (by simp;omega) _)).grown G6.out (by simp;omega) (λc e=>by have:=(J.out _ (Zay _ (r_ e))).1;omega) |>.setCell (by show w.heap.size<=w.heap.size+1;omega) _
   ·obtain rfl:k=a.length:=ω
    have hcz:∀j,wr.cell? ⟨w.heap.size,j,none⟩=(#[.int .i64 0,.slice none 0 0,.int .i64 0,.int .i64 0,.bool false,.int .i64 0,.int .i64 0,.slice none 0 0]:Array Value)[j]?:=λj=>iy H1.out j
    have hfz:∀j,wr.frozen? ⟨w.heap.size,j,none⟩=false:=KG H1.out
    have hcb:∀j,wr.cell? ⟨w.heap.size+1,j,none⟩=(#[.int .i64 op,.slice H rn rc,.int .i64 mn,.int .i64 mx,.bool lz,.int .i64 cap,.int .i64 a.length,.slice d a.length f]:Array Value)[j]?:=λj=>iy H2.out j
    clear d6 d7
    go_wp2_with fail
    obtain⟨W,hW⟩:∃W,W=EH wr w.heap.size (.int .i64 op) (.slice H rn rc) (.int .i64 mn) (.int .i64 mx) (.bool lz) (.int .i64 cap) (.int .i64 a.length) (.slice d a.length f):=⟨_,rfl⟩
    have T:=Av H1.out rfl (v0:=.int .i64 op) (v1:=.slice H rn rc) (v2:=.int .i64 mn) (v3:=.int .i64 mx) (v4:=.bool lz) (v5:=.int .i64 cap) (v6:=.int .i64 a.length) (v7:=.slice d a.length f)
    have K:=λk h=>xO (w:=wr) (b:=w.heap.size) (k:=k) (v0:=.int .i64 op) (v1:=.slice H rn rc) (v2:=.int .i64 mn) (v3:=.int .i64 mx) (v4:=.bool lz) (v5:=.int .i64 cap) (v6:=.int .i64 a.length) (v7:=.slice d a.length f) h
    have S:=kL (w:=wr) (b:=w.heap.size) (v0:=.int .i64 op) (v1:=.slice H rn rc) (v2:=.int .i64 mn) (v3:=.int .i64 mx) (v4:=.bool lz) (v5:=.int .i64 cap) (v6:=.int .i64 a.length) (v7:=.slice d a.length f)
    rw[<-hW] at T K S
    change bodyPost _ _ _ _ _ (EH wr w.heap.size (.int .i64 op) (.slice H rn rc) (.int .i64 mn) (.int .i64 mx) (.bool lz) (.int .i64 cap) (.int .i64 a.length) (.slice d a.length f))
    rw[<-hW]
    have hT:=H4.out
    have hP:=H9.out
    rw[ZaM] at hT ⊢
    have hv:=run_loadVar_row (P:=prog) W w.heap.size _ 167 _ _ _ T Tryz.underlying167 rfl (by kernel_rfl)
    refine bodyPost_ret (U1 rfl _ rfl hv) rfl ?_
    refine⟨⟨[.int .i64 op,.slice H rn rc,.int .i64 mn,.int .i64 mx,.bool lz,.int .i64 cap,.int .i64 a.length,.slice d a.length f],rfl,by simp[Value.oneCell']⟩,gJ (.slice d a.length f)++G,?_,?_,H5.out,λc E=>by have:=(J.out c E).1;omega,?_⟩
    ·have hn':at_+1+(aA a).length=at_+(aD (.mk op r mn mx lz cap (a.length:Int) a)).length:=by rw[aD,Zae];omega
     rw[<-hn']
     rfl
    ·rw[TA]
     exact⟨_,_,l,G,rfl,hvr,hin,mE H3.out λc E _=>K c (by have:=(J.out c (Zay _ E)).1;omega),rfl,pK (ly M) _ _ _ hT λc E _=>K c (by have:=(J.out c (ZaC _ E)).1;omega)⟩
    ·exact H7.out.trans (S.mono (Zah _))
end sx
set_option maxRecDepth 100000
set_option maxHeartbeats 4000000
namespace sx
noncomputable section
open Go Go.RowKit cls syn
mutual
def nrm:ah->ah
 | .mk op r mn mx lz cap _ ks=>.mk op r mn mx lz cap ks.length (nC ks)
def nC:List ah->List ah
 | []=>[]
 | t::l=>nrm t::nC l
end
theorem fX (l:List ah):nC l=l.map nrm:=by
 induction l with
 | nil=>simp[nC]
 | cons a l b=>simp[nC,b]
def iW (t:ah):nrm t=.mk t.op t.r t.mn t.mx t.lz t.cap t.af.length (t.af.map nrm):=by cases t;rw[nrm,fX];rfl
mutual
theorem xP:∀(t:ah) (m:Nat) (rest:List Nd),(aD t++rest).length<=m->ft m (aD t++rest)=some (nrm t,rest)
 | .mk op r mn mx lz cap nk ks,m,rest,hm=>by
  rw[aD] at hm ⊢
  simp only[Za1,Zae] at hm ⊢
  obtain⟨k,rfl⟩:∃k,m=k+1:=⟨m-1,ω⟩
  rw[ft]
  simp only[Zad]
  rw[Aw ks k rest ω,nrm]
theorem Aw:∀(l:List ah) (m:Nat) (rest:List Nd),(aA l++rest).length<=m->jo (ft m) l.length (aA l++rest)=some (nC l,rest)
 | [],m,rest,_=>by simp[jo,aA,nC]
 | t::l,m,rest,hm=>by
  rw[aA,ZaD] at hm ⊢
  rw[Zae,jo,xP t m _ hm]
  simp only
  rw[Aw l m rest (by simp only[Zab] at hm ⊢;omega),nC]
end
mutual
theorem xQ:∀t:ah,aD (nrm t)=aD t
 | .mk op r mn mx lz cap nk ks=>by rw[nrm,aD,aD,pM ks,fX,Za2]
theorem pM:∀l:List ah,aA (nC l)=aA l
 | []=>by rw[nC]
 | t::l=>by rw[nC,aA,aA,xQ t,pM l]
end
theorem xR (a b:ah):aD a=aD b↔nrm a=nrm b:=by
 constructor
 ·intro h;have h1:=xP a (aD a).length [] (by simp);grind [xP]
 ·grind [xQ]
theorem KH (a b:ah):uA a b↔nrm a=nrm b:=by
 grind [uA,aI,xR]
mutual
theorem KI:∀a b:ah,SY a b=true↔nrm a=nrm b
 | .mk op r mn mx lz cap nk ks,b=>by
  rw[SY,nrm,iW b]
  simp only[ZaW,Zb7,ZaP,ah.mk.injEq,<-fX]
  constructor
  ·rintro⟨⟨⟨⟨⟨⟨⟨h1,h2⟩,h3⟩,h4⟩,h5⟩,h6⟩,h7⟩,h8⟩
   exact⟨h1,h6,h2,h3,h4,h5,ω,(xS ks b.af h7).mp h8⟩
  ·rintro⟨h1,h6,h2,h3,h4,h5,h7,h8⟩
   have h7:ks.length=b.af.length:=ω
   exact⟨⟨⟨⟨⟨⟨⟨h1,h2⟩,h3⟩,h4⟩,h5⟩,h6⟩,h7⟩,(xS ks b.af h7).mpr h8⟩
theorem xS:∀l m:List ah,l.length=m.length->(rW l m=true↔nC l=nC m)
 | [],m,h=>by
  cases m with
  | nil=>simp[rW,nC]
  | cons b m=>cases h
 | a::l,m,h=>by
  cases m with
  | nil=>cases h
  | cons b m=>
   rw[rW,nC,nC,ZaW,KI a b,xS l m (by simpa using h),List.cons.injEq]
end
theorem KJ (a b:ah):nK a b↔nrm a=nrm b:=by
 unfold nK;rw[aI,KI]
theorem Z4 (a b:ah):uA a b=nK a b:=by grind [KH,KJ]
theorem sd:∀(l s o:List ah),(∀k,s.any (λx=>nK x k)=o.any (λx=>nK x k))->dW o l=o++eG s l
 | [],s,o,_=>by grind [dW,eG]
 | k::l,s,o,h=>by
  rw[dW,eG];have b:(λx=>uA x k)=λx=>nK x k:=funext λx=>Z4 x k
  rw[b];by_cases c:s.any (λx=>nK x k)
  ·rw[Zac c,Zac (by simp_all)];refine sd l (s++[k]) o λa=>?_
   rw[Zca,h];simp only[ZdX,List.any_nil,Zdh];cases hk:nK k a with
   | false=>rw[Zdh]
   | true=>
    rw[Bool.or_true];symm;rw[h] at c;grind [KJ]
  ·rw[Zaa c,Zaa (by simp_all),sd l (s++[k]) (o++[k]) λa=>by simp_all];simp
def vq (l:List ah):vg l=jI l:=by
 unfold vg jI;rw[sd l [] [] λ_=>rfl,Zcb]
theorem se:∀(l o:List ah),(bJ o l).length=o.length+l.length->bJ o l=o++l
 | [],o,_=>by grind [bJ]
 | k::l,o,h=>by
  rw[bJ] at h ⊢;have h1:(dv o k).length<=o.length+1:=iT o k;have b:∀(l o:List ah),(bJ o l).length<=o.length+l.length:=λl=>by
   induction l with
   | nil=>intro o;rw[bJ];exact Zah _
   | cons a l c=>intro o;rw[bJ];have:=c (dv o a);have:=iT o a;simp only[Zae];omega
  have d:=b l (dv o k);simp only[Zae] at h;rw[se l (dv o k) ω];grind [dv]
theorem Nr {l:List ah} (h:(jI l).length=l.length):jI l=l:=by
 unfold jI at h ⊢;have e:dW [] l=eG [] l:=by grind [sd]
 rw[e] at h ⊢;have s:=nv l [];have c:=s.length_le;have d:(bJ [] (eG [] l)).length<=(eG [] l).length:=by
  have:∀(l o:List ah),(bJ o l).length<=o.length+l.length:=λl=>by
   induction l with
   | nil=>intro o;rw[bJ];exact Zah _
   | cons a l b=>intro o;rw[bJ];have:=b (dv o a);have:=iT o a;simp only[Zae];omega
  grind
 grind [se]
theorem Z5 (l:List ah):(jI l).length<=l.length:=by
 rw[<-vq];unfold vg;have:∀(l o:List ah),(bJ o l).length<=o.length+l.length:=λl=>by
  induction l with
  | nil=>intro o;rw[bJ];exact Zah _
  | cons a l b=>intro o;rw[bJ];have:=b (dv o a);have:=iT o a;simp only[Zae];omega
 grind [nv]
theorem KK:∀(n:Nat) (l:List ah),l.length<=n->iw n l=jq n l
 | 0,l,h=>by
  have:l=[]:=Zap ω;subst this;rfl
 | n+1,l,h=>by
  rw[iw,jq,vq];have:=Z5 l;by_cases c:(jI l).length=l.length
  ·grind [Nr]
  ·rw[Zac ω,Zaa c];exact KK n _ ω
mutual
def dY:ah->Prop
 | .mk op _ _ _ _ _ _ ks=>(op=3->∀k∈ks,k.op≠1)/\(op=4->ks≠[])/\tU ks
def tU:List ah->Prop
 | []=>True
 | t::l=>dY t/\tU l
end
theorem Ax (l:List ah):tU l↔∀t∈l,dY t:=by
 induction l with
 | nil=>simp[tU]
 | cons a l b=>rw[tU,b];simp
theorem j6 (t:ah):dY t↔(t.op=3->∀k∈t.af,k.op≠1)/\(t.op=4->t.af≠[])/\∀k∈t.af,dY k:=by cases t;rw[dY,Ax];exact ZbW
noncomputable def byD (t:ah):ah:=if t.op=3 then HN t else if t.op=4 then HR t else if t.op=5 then cQ t else t
theorem U4 {l:List ah} (h:∀k∈l,dY k):fa l=gH (aF 3 l):=by
 unfold fa gH aF;rw[List.filter_flatMap];have:∀k∈l,(if k.op=1 then([]:List ah) else if k.op=3 then k.af else[k])=List.filter (λt=>!u_ t) (if k.op=3 then k.af else[k]):=λk hk=>by
  grind [j6,List.filter_eq_self,u_]
 clear h
 induction l with
 | nil=>rfl
 | cons a l b=>rw[Zbt,Zbt,this a (by simp),b λk hk=>this k (by grind)]
theorem lJ (t:ah):(nrm t).op=t.op:=by rw[iW];rfl
theorem U5 (t:ah):(nrm t).r=t.r:=by rw[iW];rfl
theorem mF (t:ah):(nrm t).af=t.af.map nrm:=by rw[iW];rfl
theorem nD (t:ah):nrm (nrm t)=nrm t:=by rw[<-xR,xQ]
theorem sf (l:List ah):(l.map nrm).map nrm=l.map nrm:=by grind [List.map_congr_left,nD]
theorem Ij (op:Int) (l:List ah):aF op (l.map nrm)=(aF op l).map nrm:=by
 unfold aF;grind [List.flatMap_map,lJ,mF]
theorem Ns (l:List ah):fa (l.map nrm)=(fa l).map nrm:=by
 unfold fa;grind [List.flatMap_map,lJ,mF]
theorem Z6 (a b:ah):uA (nrm a) (nrm b)=uA a b:=by grind [KH,nD]
theorem KL:∀l s:List ah,eG (s.map nrm) (l.map nrm)=(eG s l).map nrm
 | [],s=>rfl
 | k::l,s=>by
  have h:=KL l (s++[k]);rw[ZcG] at h;rw[Zbl,eG,eG,List.any_map];have e:((λx=>uA x (nrm k))∘nrm)=λx=>uA x k:=funext λx=>Z6 x k
  grind
theorem U6 (o:List ah):nL (o.map nrm)=nrm (nL o):=by
 unfold nL;rw[Za2];by_cases h:o=[]
 ·subst h;rfl
 ·have a:o.length-1<o.length:=by have:=List.length_pos_iff.mpr h;omega
  grind
def Nt (o:List ah) (k:ah):dv (o.map nrm) (nrm k)=(dv o k).map nrm:=by
 unfold dv;rw[U6,lJ,lJ,U5,U5,Za2];split
 ·rw[List.map_set];congr 1
 ·simp
theorem xT:∀l o:List ah,bJ (o.map nrm) (l.map nrm)=(bJ o l).map nrm
 | [],o=>rfl
 | k::l,o=>by rw[Zbl,bJ,bJ,Nt,xT l]
def U7 (l:List ah):vg (l.map nrm)=(vg l).map nrm:=by
 unfold vg;rw[show eG [] (l.map nrm)=(eG [] l).map nrm from KL l []];exact xT _ []
theorem KM:∀(n:Nat) (l:List ah),iw n (l.map nrm)=(iw n l).map nrm
 | 0,l=>by rw[iw,iw,U7]
 | n+1,l=>by
  rw[iw,iw,U7,Za2,Za2];split
  ·exact KM n _
  ·rfl
mutual
theorem KN:∀t:ah,pD (nrm t)=pD t
 | .mk op r mn mx lz cap nk ks=>by rw[nrm,pD,pD,EI ks]
theorem EI:∀l:List ah,jO (nC l)=jO l
 | []=>by rw[nC]
 | t::l=>by rw[nC,jO,jO,KN t,EI l]
end
variable {l:List ah}
theorem U8 (t:ah):eZ (nrm t)=eZ t:=by grind [eZ,KN]
theorem xU (l:List ah):(l.map nrm).getD 0 bA=nrm (l.getD 0 bA):=by
 cases l with
 | nil=>rfl
 | cons a l=>rfl
theorem EJ (t:ah):bF (nrm t)=nrm (bF t):=by grind [bF,mF,xU]
theorem iX (t:ah) (a:List ah):nrm (iv t a)=.mk t.op t.r t.mn t.mx t.lz t.cap a.length (a.map nrm):=by grind [iv,nrm,fX]
theorem KO (t:ah):nrm (byD t)=nrm (byD (nrm t)):=by
 unfold byD;rw[lJ];split
 ·unfold HN;rw[mF,Ns]
  match fa t.af with
  | []=>rfl
  | [k]=>exact(nD k).symm
  | a::b::l=>
   show nrm (iv t (a::b::l))=nrm (iv (nrm t) ((a::b::l).map nrm))
   rw[iX,iX,sf,Za2,iW t];rfl
 ·split
  ·unfold HR;rw[mF,Ij,Za2,KM]
   match iw (aF 4 t.af).length (aF 4 t.af) with
   | []=>show nrm (iv t [])=nrm (iv (nrm t) []);rw[iX,iX,iW t];rfl
   | [k]=>exact(nD k).symm
   | a::b::l=>
    show nrm (iv t (a::b::l))=nrm (iv (nrm t) ((a::b::l).map nrm))
    rw[iX,iX,sf,Za2,iW t];rfl
  ·split
   ·unfold cQ;rw[EJ,lJ,U8,EJ,lJ];have c:(nrm t).mn=t.mn/\(nrm t).mx=t.mx/\(nrm t).lz=t.lz/\(nrm t).cap=t.cap:=by rw[iW];exact⟨rfl,rfl,rfl,rfl⟩
    have e2:ep (J3 (ur (nrm t)))=ep (J3 (ur t)):=by rw[iW];cases t;rfl
    have d:ep (J3 (nrm (bF t)))=ep (J3 (bF t)):=by rw[iW];rfl
    rw[c.1,c.2.1,e2,d];split
    ·grind [nD]
    ·split
     ·grind [nD]
     ·split
      ·rfl
      ·split
       ·unfold D3;generalize bF t=k;rw[nrm,nrm,iW k];simp only[ah.op,ah.r,ah.mx,ah.mn,ah.lz,ah.cap,ah.af,fX,sf,Za2]
       ·have e:∀u,nrm (ur u)=.mk u.op u.r u.mn u.mx (u.lz&&decide (u.mn≠u.mx)) u.cap u.af.length (u.af.map nrm):=λu=>by unfold ur;rw[nrm,fX]
        grind [lJ,U5,mF,sf]
   ·grind [nD]
theorem tV {op:Int} (h:∀k∈l,dY k):∀k∈aF op l,dY k:=λt ht=>by
 grind [aF,j6]
theorem Ik (r:List Rg):dY (oT r):=by
 grind [oT,dY,tU]
theorem tW:∀(l o:List ah),(∀k∈o,dY k)->(∀k∈l,dY k)->∀k∈bJ o l,dY k
 | [],o,h,_=>by assumption
 | a::l,o,h,h2=>by
  rw[bJ];refine tW l _ (λk hk=>?_) λk hk=>h2 k (ZaU _ hk)
  grind [dv,Ik]
def Nu (h:∀k∈l,dY k):∀k∈jI l,dY k:=by
 rw[<-vq];exact tW _ _ (λk hk=>nomatch hk) λk hk=>h k ((nv l []).subset hk)
theorem xV:∀(n:Nat) (l:List ah),(∀k∈l,dY k)->∀k∈jq n l,dY k
 | 0,l,h=>h
 | n+1,l,h=>by
  rw[jq];split
  ·exact h
  ·exact xV n _ (Nu h)
theorem tX:∀(l o:List ah),(o≠[]\/l≠[])->bJ o l≠[]
 | [],o,h=>by grind [bJ]
 | a::l,o,_=>by
  rw[bJ];refine tX l _ (.inl ?_);unfold dv;split
  ·simp_all
  ·simp
theorem Nv (h:l≠[]):jI l≠[]:=by
 rw[<-vq];refine tX _ _ (.inr ?_);cases l with
 | nil=>exact absurd rfl h
 | cons a l=>rw[eG];simp
theorem xW:∀(n:Nat) (l:List ah),l≠[]->jq n l≠[]
 | 0,l,h=>h
 | n+1,l,h=>by
  rw[jq];split
  ·exact h
  ·exact xW n _ (Nv h)
theorem EK (b:∀k∈l,dY k) (h:l≠[]):aF 4 l≠[]:=by
 cases l with
 | nil=>exact absurd rfl h
 | cons a l=>
  have c:=(j6 a).mp (b a Za8);unfold aF;rw[Zbt];split
  ·simp_all
  ·simp
theorem xX {op:Int} (h:∀k∈l,dY k) (c:op=3->∀k∈l,k.op≠1):dY (gS op l):=by
 match l,h,c with
 | [],_,_=>rw[gS,dY,tU];exact⟨λh=>absurd h (by decide),λh=>absurd h (by decide),trivial⟩
 | [k],h,_=>exact h k (by simp)
 | a::b::l,h,c=>
  grind [gS,dY,Ax]
theorem U9 {t:ah} (hk:0<t.af.length) (a:t.op=5) (h:∀k∈t.af,dY k):dY (cQ t):=by
 have K:dY (bF t):=by grind [bF]
 unfold cQ;split
 ·exact K
 ·split
  ·exact K
  ·split
   ·grind [dY,tU]
   ·split
    ·rw[j6] at K ⊢;exact K
    ·rw[j6];exact⟨λe=>absurd (a.symm.trans e) (by decide),λe=>absurd (a.symm.trans e) (by decide),h⟩
theorem Z7 {t:ah} (hw:MS ⟨t.op,t.r,t.mn,t.mx,t.lz,t.cap,t.af.length⟩) (hk:∀k∈t.af,dY k):nrm (byD t)=nrm (xq t)/\dY (xq t):=by
 have i:t.op=3\/t.op=4->t.r=[]/\t.mn=0/\t.mx=0/\t.lz=false/\t.cap=0:=λh=>by
  obtain⟨g,p⟩:=hw;grind [b9,Ml]
 have o:∀{op:Int} {n:List ah},t.op=op->(op=3\/op=4)->nrm (iv t n)=nrm (.mk op [] 0 0 false 0 0 n):=λh j=>by
  grind [iX,nrm,fX]
 unfold byD xq;by_cases e:t.op=3
 ·rw[Zac e,Zac e];have f:∀k∈gH (aF 3 t.af),dY k:=λk c=>tV hk k (List.mem_filter.mp c).1
  constructor
  ·unfold HN D0;rw[U4 hk]
   match gH (aF 3 t.af) with
   | []=>rfl
   | [k]=>rfl
   | a::b::l=>exact o e (.inl rfl)
  ·unfold D0;refine xX f λ_ k c=>?_
   have:=(List.mem_filter.mp c).2;grind [u_]
 ·rw[Zaa e,Zaa e];by_cases d:t.op=4
  ·rw[Zac d,Zac d];have j:t.af≠[]:=by
    have:=hw.aG d;grind
   have f:=xV (aF 4 t.af).length _ (tV (op:=4) hk);have hs:=xW (aF 4 t.af).length _ (EK hk j);constructor
   ·unfold HR BE;rw[KK _ _ (Zah _)];generalize jq (aF 4 t.af).length (aF 4 t.af)=L at hs
    match L,hs with
    | [k],_=>rfl
    | a::b::l,_=>exact o d (.inr rfl)
   ·exact xX f λh=>absurd h (by decide)
  ·rw[Zaa d,Zaa d];by_cases m:t.op=5
   ·rw[Zac m];have:=(hw.rep m).1;grind [U9]
   ·grind [j6]
mutual
noncomputable def eH:ah->ah
 | .mk op r mn mx lz cap nk ks=>byD (.mk op r mn mx lz cap nk (cR ks))
noncomputable def cR:List ah->List ah
 | []=>[]
 | t::l=>eH t::cR l
end
mutual
theorem Ay:∀t:ah,j3 t->nrm (eH t)=nrm (jJ t)/\dY (jJ t)
 | .mk op r mn mx lz cap nk ks,h=>by
  rw[j3] at h
  obtain⟨i1,i2⟩:=qM ks h.2.2
  have hl:=pF ks
  obtain⟨b1,b2⟩:=Z7 (t:=.mk op r mn mx lz cap nk (dk ks)) (by simp only[ah.af];rw[hl];exact h.1) i2
  rw[eH,jJ]
  refine⟨?_,b2⟩
  rw[<-b1,KO,KO (.mk op r mn mx lz cap nk (dk ks))]
  have:nrm (.mk op r mn mx lz cap nk (cR ks))=nrm (.mk op r mn mx lz cap nk (dk ks)):=by
   rw[nrm,nrm,fX,fX,i1]
   have:=ZaR List.length i1
   rw[Za2,Za2] at this
   rw[this]
  rw[this]
theorem qM:∀l:List ah,my l->(cR l).map nrm=(dk l).map nrm/\∀k∈dk l,dY k
 | [],_=>⟨by rw[cR,dk],λk hk=>by rw[dk] at hk;cases hk⟩
 | t::l,h=>by
  rw[my] at h
  obtain⟨a1,a2⟩:=Ay t h.1
  obtain⟨b1,b2⟩:=qM l h.2
  rw[cR,dk]
  refine⟨by rw[Zbl,Zbl,a1,b1],λk hk=>?_⟩
  rcases List.mem_cons.mp hk with e | e
  ·rw[e];exact a2
  ·exact b2 k e
end
def Az {t:ah} (h:j3 t):aD (eH t)=aD (jJ t):=(xR _ _).mpr (Ay t h).1
end
end sx
namespace sx
open Go Go.RowKit cls syn sl
noncomputable abbrev H0:Hp D:=λt=>cq [] t
structure Qs (F:List Nat) (M:Pm D) (w:World) (M':Pm D) (w':World):Prop where
 le:Le M M'
 fq:dQ M' H0 w'
 pl:∀b,M'.pl b=M.pl b
 sb:∀b o,M'.sg b o≠none->M.sg b o≠none\/w.heap.size<=b\/b∈F
 size:w.heap.size<=w'.heap.size
 aN:∀c,c<w.heap.size->c ∉ F->w'.heap[c]?=w.heap[c]?
 os:w'.os=w.os
 tape:w'.tape=w.tape
 output:w'.output=w.output
variable {F F':List Nat} {M M' M'':Pm D} {w w' w'':World}
theorem Qs.refl (h:dQ M H0 w):Qs F M w M w:=⟨ly M,h,λ_=>rfl,λ_ _ h=>.inl h,Zah _,λ_ _ _=>rfl,rfl,rfl,rfl⟩
theorem Qs.trans (h:Qs F M w M' w') (k:Qs F' M' w' M'' w'') (a:∀c∈F',c∈F\/w.heap.size<=c):Qs F M w M'' w'' where
 le:=⟨λb m e=>k.le.1 b m (h.le.1 b m e),λb o v e=>k.le.2 b o v (h.le.2 b o v e)⟩
 fq:=k.fq
 pl b:=(k.pl b).trans (h.pl b)
 sb b o e:=by
  rcases k.sb b o e with e | e | e
  ·exact h.sb b o e
  ·exact .inr (.inl (Zav h.size e))
  ·grind
 size:=Zav h.size k.size
 aN c hc hn:=(k.aN c (ZbB hc h.size) λe=>(a c e).elim hn λh=>ω).trans (h.aN c hc hn)
 os:=k.os.trans h.os
 tape:=k.tape.trans h.tape
 output:=k.output.trans h.output
theorem Qs.FL (a:cP H0 M w H0 M' w' 0 0):Qs F M w M' w' where
 le:=⟨λb m e=>(a.ext b ω).trans e,a.I0⟩
 fq:=a.fq
 pl b:=a.ext b ω
 sb b o e:=by
  rcases a.kX b o e with e | e | ⟨c,f,d,h1,_⟩
  ·grind
  ·omega
  ·cases h1
 size:=a.size
 aN c hc _:=a.aN c hc λ⟨c,f,d,h1,_⟩=>by cases h1
 os:=a.os
 tape:=a.tape
 output:=a.output
def Qs.QiM (h:dQ M H0 w) (hs:w.heap.size<=w'.heap.size) (g:w'.os=w.os) (ht:w'.tape=w.tape) (hu:w'.output=w.output) (hk:∀c,c<w.heap.size->c ∉ F->w'.heap[c]?=w.heap[c]?) (f:∀c∈F,D.ng<=c/\∀o,M.sg c o=none):Qs F M w M w':=
 ⟨ly M,⟨λb o e=>(by cases e),λ_ _ _ _ _ _ e=>(by cases e),λb o v e=>let ⟨i,k,d,j⟩:=h.gj b o v e;⟨i,k,(fN (hk b (h.slt e) λa=>by rw[(f b a).2] at e;cases e)).trans d,j⟩,λ_ _ _ e=>(by cases e),λ_ _ _ _ _ e=>(by cases e),
  ⟨Zav h.lM.1.1 hs,D.gst _ _ (λc d=>hk c (ZbB d h.lM.1.1) λa=>by have:=(f c a).1;omega) h.lM.1.2⟩,λ_ _ _ e=>(by cases e)⟩,λ_=>rfl,λ_ _ h=>.inl h,hs,hk,g,ht,hu⟩
theorem Qs.gj {g:Nat} {ys:List ah} (h:dQ M H0 w) (j:∀o,M.sg g o=none) (m:g∈F)
  (f:∀i v,(aW (D:=D) 15 ys)[i]?=some v->∃a,w.cell? ⟨g,i,none⟩=some a/\VR M v a):Qs F M w ⟨M.pl,cY M.sg g 0 (aW 15 ys)⟩ w:=by
 have hle:Le M ⟨M.pl,cY M.sg g 0 (aW 15 ys)⟩:=⟨λ_ _ h=>h,kb λq _ _=>j q⟩;refine⟨hle,⟨λb o e=>(by cases e),λ_ _ _ _ _ _ e=>(by cases e),λb q v e=>?_,λ_ _ _ e=>(by cases e),λ_ _ _ _ _ e=>(by cases e),⟨h.lM.1,λ_ _ _ e=>(by cases e)⟩⟩,λ_=>rfl,λb q e=>?_,Zah _,λ_ _ _=>rfl,rfl,rfl,rfl⟩
 ·replace e:cY M.sg g 0 (aW 15 ys) b q=some v:=e;unfold cY at e;split at e
  ·rename_i d
   obtain⟨rfl,h1,l⟩:=d;obtain⟨a,c,e2⟩:=f _ v e;rw[Zdp] at c;exact⟨(dR gE (ZaJ e)).2,a,c,e2.mono hle⟩
  ·obtain⟨k,a,c,e2⟩:=h.gj b q v e;exact⟨k,a,c,e2.mono hle⟩
 ·grind [lV]
theorem U' {a:Value} {l:List E8} {ys:List ah} (h:dQ M H0 w) (p:pX w a l) (m:LR M (aW (D:=D) 15 ys) (flat e8 l)) (j:∀c∈gJ a,∀o,M.sg c o=none) (hl:l.length=ys.length):∃f,Qs (gJ a) M w f w/\VR f (.list 15 ys) a:=by
 rcases p.2 with⟨rfl,d⟩ | ⟨g,cap,aX,rfl,d,q,r,k,s,t⟩
 ·rw[hl] at d;rw[Zap d];exact⟨M,.refl h,.eD⟩
 ·have n:gJ (.slice (some ⟨g,0,none⟩) l.length cap)=[g]:=rfl;rw[n] at j ⊢;refine⟨_,Qs.gj (ys:=ys) h (j g (ZaI.2 rfl)) (ZaI.2 rfl) λi v e=>?_,?_⟩
  ·obtain⟨y,u,x⟩:=m.get e;grind [World.cell?]
  ·rw[hl];exact VR.list (b:=g) (o:=0) (ct.add gE) (show ys.length<=9223372036854775807 by unfold maxLen at k;omega) (show ys.length<=cap by omega)
theorem AA:∀l:List ah,(fa l).length<=(aA l).length
 | []=>Zaj _
 | k::l=>by
  have h:=AA l;grind [ei,bQ,fa,s6]
theorem nE:∀l:List ah,(cR l).length=l.length
 | []=>by rw[cR]
 | t::l=>by rw[cR,Zae,nE l,Zae]
def QiN {op:Int} {r:List Rg} {mn mx:Int} {lz:Bool} {cap:Int} {a:List ah} (hw:j3 (.mk op r mn mx lz cap (a.length:Int) a)) (ht:dA (.mk op r mn mx lz cap (a.length:Int) a)):
  (op=3->HO.pre (.mk op r mn mx lz cap (a.length:Int) (cR a)))/\(op=4->HS.pre (.mk op r mn mx lz cap (a.length:Int) (cR a)))/\(op=5->HU.pre (.mk op r mn mx lz cap (a.length:Int) (cR a))):=by
 have hi:=(jd _).mp (Ec _ hw);have hk:=ht.af;obtain⟨o,b⟩:=nu a hi.2 ⟨Zah _,hk.2⟩;rw[j3] at hw;obtain⟨j,v⟩:=qM a hw.2.2;have e:aA (cR a)=aA (dk a):=by rw[<-pM,fX,j,<-fX,pM]
 rw[<-e] at b;have hl:=nE a;have i:dF (cR a):=⟨Zav b.1 hk.1,b.2⟩;have m:a.length<=1000000:=hk.len;refine⟨λ_=>⟨by show(cR a).length<=_;omega,Zav (AA _) i.1⟩,λ_=>⟨by show(cR a).length<=_;omega,?_⟩,λh=>⟨?_,h⟩⟩
 ·have:=mw 4 _ _ b;exact⟨Zav this.1 hk.1,this.2⟩
 ·obtain⟨b1,k⟩:=hi.1 h;have b1:1<=a.length:=b1;have c:0<(cR a).length:=ω;refine⟨by show 1<=(cR a).length;omega,i.get c,k,λl=>?_⟩;have d:0<(dk a).length:=by rw[pF];omega
  have f:nrm ((cR a).getD 0 bA)=nrm ((dk a).getD 0 bA):=by rw[<-xU,j,xU]
  have g:rY ((dk a).getD 0 bA):=by rw[eo d];exact(jP _).mp o _ (Zas _)
  have n:((dk a).getD 0 bA).op=5:=by rw[<-lJ,<-f,lJ];exact l
  obtain⟨c1,c2⟩:=((jd _).mp g).1 n;rw[iW,iW] at f;injection f with p q s t u n6 n7 n8
  refine⟨?_,?_⟩
  ·show 0<=((cR a).getD 0 bA).mn
   omega
  ·show 1<=((cR a).getD 0 bA).af.length
   omega
end sx
namespace sx
open Go Go.RowKit cls syn sl
set_option maxRecDepth 100000
theorem U_ {w:World} {g n c k:Nat} {ld lr:List E8} {x:E8} (h:pX w (.slice (some ⟨g,0,none⟩) n c) (ld++x::lr)) (b:(ld++x::lr).length=n) (hk:ld.length=k):
  (∀j u,j<8->x.1[j]?=some u->w.cell? ⟨g,k*8+j,none⟩=some u)/\(∀o,w.frozen? ⟨g,o,none⟩=false)/\g<w.heap.size:=by
 subst b;subst hk;refine⟨λj u a e=>(h.cellAt rfl Ih (i:=ld.length) (x:=x) (by simp) a e).1,λo=>World.ownsRow.frozenAt h o,?_⟩;obtain⟨f,d,e,_,l,_⟩:=h.form (by simp);grind
noncomputable def EL (l:List ah):List (AV D.E):=l.flatMap λt:ah=>D.bd 15 t
structure SL (M:Pm D) (w:World) (ks:List ah) (G:List Nat) (kv:Value) (k:Nat) (wr:World) (Mk:Pm D) (ld lr:List E8) (Gr:List Nat):Prop where
 own:pX wr kv (ld++lr)
 len:ld.length=k
 rows:LR Mk (EL ((cR ks).take k)) (flat e8 ld)
 af:KA Mk wr (ks.drop k) lr Gr
 sub:∃Gd,G=Gd++Gr
 un:∀c∈gJ kv++Gr,∀o,Mk.sg c o=none
 un2:∀o,Mk.sg (w.heap.size+1) o=none
 qs:Qs (gJ kv++G) M w Mk wr
abbrev AB (w:World) (b o:Nat) (a c d v3 e v5 f g:Value):World:=(((((((w.setCell ⟨b,o,none⟩ a).setCell ⟨b,o+1,none⟩ c).setCell ⟨b,o+2,none⟩ d).setCell ⟨b,o+3,none⟩ v3).setCell ⟨b,o+4,none⟩ e).setCell ⟨b,o+5,none⟩ v5).setCell ⟨b,o+6,none⟩ f).setCell ⟨b,o+7,none⟩ g
variable {a c d Z e Y i g:Value} {w:World} {b o k:Nat} {M:Pm D} {X W:List E8}
def lB (h:k≠b):(AB w b o a c d Z e Y i g).heap[k]?=w.heap[k]?:=by
 unfold AB;rw[jL h,jL h,jL h,jL h,jL h,jL h,jL h,jL h]
theorem Z8 {j:Nat} {x y:E8} (h:pX w (.slice (some ⟨b,0,none⟩) o k) (X++x::W)) (p:(X++x::W).length=o) (hk:X.length=j) (q:y.1=[a,c,d,Z,e,Y,i,g]):
  pX (AB w b (j*8) a c d Z e Y i g) (.slice (some ⟨b,0,none⟩) o k) (X++y::W):=by
 subst p;have s:=(World.ownsRow.stored (World.ownsRow.stored (World.ownsRow.stored (World.ownsRow.stored (World.ownsRow.stored (World.ownsRow.stored (World.ownsRow.stored (World.ownsRow.stored h (j*8) a).1 (j*8+1) c).1 (j*8+2) d).1 (j*8+3) Z).1 (j*8+4) e).1 (j*8+5) Y).1 (j*8+6) i).1 (j*8+7) g).1;have f:((((((((flat e8 (X++x::W)).set (j*8) a).set (j*8+1) c).set (j*8+2) d).set (j*8+3) Z).set (j*8+4) e).set (j*8+5) Y).set (j*8+6) i).set (j*8+7) g=flat e8 (X++y::W):=by
  obtain⟨l,hl,_⟩:=x;obtain⟨a0,l,rfl⟩:=ZaB (show l.length=7+1 from hl);obtain⟨r,l,rfl⟩:=ZaB (show l.length=6+1 by simpa using hl);obtain⟨a2,l,rfl⟩:=ZaB (show l.length=5+1 by simpa using hl);obtain⟨a3,l,rfl⟩:=ZaB (show l.length=4+1 by simpa using hl);obtain⟨a4,l,rfl⟩:=ZaB (show l.length=3+1 by simpa using hl);obtain⟨a5,l,rfl⟩:=ZaB (show l.length=2+1 by simpa using hl);obtain⟨t,l,rfl⟩:=ZaB (show l.length=1+1 by simpa using hl);obtain⟨u,l,rfl⟩:=ZaB (show l.length=0+1 by simpa using hl);obtain rfl:l=[]:=by simpa using hl
  have n:(flat e8 X).length=j*8:=by rw[mD Ih,hk]
  have m:∀(z:E8),flat e8 (z::W)=z.1++flat e8 W:=λz=>rfl
  rw[jv,jv,m,m,q,<-n];simp_all
 grind [jK]
theorem jw:Below b w (AB w b o a c d Z e Y i g):=by
 unfold AB;have k:∀(W:World) (f:Nat) (v:Value),Below b w W->Below b w (W.setCell ⟨b,f,none⟩ v):=λW f v h=>h.setCell (Zah _) v
 grind [Below.refl]
def CC {l:List (AV D.E)} {A:Array Value} (h:VR M (.agg l) (.agg A)):LR M l A.toList:=by
 cases h with | agg h1 a=>exact⟨h1,a⟩
theorem Il (l:List ah):cR l=l.map eH:=by
 induction l with
 | nil=>rw[cR];rfl
 | cons t l a=>rw[cR,a];rfl
theorem SL.round {v:List ah} {G:List Nat} {I:Nat} {wr:World} {C s:Pm D} {j m:List Nat} {U:E8} {O:World} {T:ah}
  (h:SL M w v G (.slice (some ⟨b,0,none⟩) o k) I wr C X (U::W) (j++m)) (S:KA C wr (v.drop (I+1)) W m) (hk:v[I]?=some T) (hn:(X++U::W).length=o)
  (z:(gJ (.slice (some ⟨b,0,none⟩) o k)++G).Nodup) (lr:∀N∈gJ (.slice (some ⟨b,0,none⟩) o k)++G,D.ng<=N/\N<w.heap.size) (hs:w.heap.size+2<=wr.heap.size)
  (t:Qs j C wr s O) (hv:VR s (.agg (D.bd 15 (eH T))) (.agg #[a,c,d,Z,e,Y,i,g])) (h1:∀u∈[a,c,d,Z,e,Y,i,g],u.oneCell'):
  SL M w v G (.slice (some ⟨b,0,none⟩) o k) (I+1) (AB O b (I*8) a c d Z e Y i g) s (X++[⟨[a,c,d,Z,e,Y,i,g],rfl,h1⟩]) W m:=by
 have H:gJ (.slice (some ⟨b,0,none⟩) o k)=[b]:=rfl;obtain⟨ld,Q⟩:=h.sub;rw[H] at z lr;have r:=h.un;rw[H] at r;have J:=List.nodup_cons.1 (show(b::G).Nodup from z);have l:∀N∈j++m,N∈G:=λN H=>by rw[Q];exact ZaC _ H
 have y:b ∉ j:=λK=>J.1 (l b (Zay _ K))
 have P:(j++m).Nodup:=by rw[Q] at J;exact(ZbR.1 J.2).2.1
 have p:∀N∈m,N ∉ j/\N≠b:=λN H=>⟨λK=>(ZbR.1 P).2.2 N K N H rfl,λK=>J.1 (by rw[<-K];exact l N (ZaC _ H))⟩
 have q:∀N∈[b]++(j++m),D.ng<=N/\N<w.heap.size:=λN H=>lr N ((Zax.1 H).elim (λh=>Zay _ h) λh=>ZaC _ (l N h))
 have R:=q b (by simp);have L:∀N,N<wr.heap.size->N ∉ j->(∀n,C.sg N n=none)->∀n,s.sg N n=none:=λN h1 v3 E n=>by
  cases K:s.sg N n with
  | none=>rfl
  | some u=>
   rcases t.sb N n (by rw[K];simp) with V | V | V
   ·grind
   ·omega
   ·grind
 have B:pX O (.slice (some ⟨b,0,none⟩) o k) (X++U::W):=mE h.own λN f hl=>t.aN N hl (by rw[H,ZaI] at f;rw[f];exact y)
 have x:=L b ω y λn=>r b (by simp) n
 have A:Qs ([b]++G) M w s O:=(h.qs).trans t λN H=>.inl (ZaC _ (l N (Zay _ H)))
 refine⟨?_,by simp[h.len],?_,pK t.le _ _ _ S λN H hl=>(lB (p N H).2).trans (t.aN N hl (p N H).1),⟨ld++j,by rw[Q,ZaD]⟩,λN f=>?_,L _ ω (λK=>by have:=(q _ (ZaC _ (Zay _ K))).2;omega) h.un2,?_⟩
 ·rw[ZaD];exact Z8 B hn h.len rfl
 ·have v5:EL ((cR v).take (I+1))=EL ((cR v).take I)++D.bd 15 (eH T):=by
   rw[Zcr,Il,Zbk,hk];simp[EL]
  rw[v5,jv];refine(h.rows.mono t.le).app ?_;obtain⟨j1,j2⟩:=CC hv;exact⟨j1,j2⟩
 ·rw[H] at f;have v3:=q N ((Zax.1 f).elim (λh=>Zay _ h) λh=>ZaC _ (ZaC _ h));rcases Zax.1 f with E | E
  ·grind
  ·exact L N ω (p N E).1 λn=>r N (by simp[E]) n
 ·refine A.trans (Qs.QiM (F:=[b]) A.fq jw.size jw.os jw.tape jw.output (λN _ H=>lB (by simpa using H)) λN H=>by rw[ZaI.1 H];exact⟨R.1,x⟩) λN H=>.inl (Zay _ H)
theorem EM {T:ah} (h:VR M (.agg (D.bd 15 T)) a):∃(e:Option Addr) (sn f:Nat) (g:Option Addr) (un i:Nat),a=.agg #[.int .i64 T.op,.slice e sn f,.int .i64 T.mn,.int .i64 T.mx,.bool T.lz,.int .i64 T.cap,.int .i64 T.nk,.slice g un i]:=by
 cases h with | @agg _ A h1 d=>?_
 obtain⟨l⟩:=A;have h:LR M (D.bd 15 T) l:=⟨h1,d⟩;cases T;obtain⟨j,l,rfl,a0,h⟩:=h.bD;obtain⟨k,l,rfl,v,h⟩:=h.bD;obtain⟨m,l,rfl,a2,h⟩:=h.bD;obtain⟨v3,l,rfl,a3,h⟩:=h.bD;obtain⟨n,l,rfl,a4,h⟩:=h.bD;obtain⟨v5,l,rfl,a5,h⟩:=h.bD;obtain⟨o,l,rfl,b,h⟩:=h.bD;obtain⟨p,l,rfl,c,h⟩:=h.bD;obtain rfl:=h.kW;obtain rfl:=fk a0;obtain⟨_,_,_,rfl⟩:=Au v;obtain rfl:=fk a2;obtain rfl:=fk a3;obtain rfl:=nB a4;obtain rfl:=fk a5;obtain rfl:=fk b;obtain⟨_,_,_,rfl⟩:=Au c;grind
abbrev z8:Array Value:=#[.int .i64 0,.slice none 0 0,.int .i64 0,.int .i64 0,.bool false,.int .i64 0,.int .i64 0,.slice none 0 0]
theorem vt {F:List Nat} {M a:Pm D} {w j:World} {T:ah} {d e f v3 g v5 h i:Value} (k:Qs F M w a j) (hz:j.heap[w.heap.size+1]?=some (.cells z8 167 (0,0))) (n:∀o,a.sg (w.heap.size+1) o=none) (m:D.ng<=w.heap.size)
  (l:VR a (.agg (D.bd 15 T)) (.agg #[d,e,f,v3,g,v5,h,i])):
  ∃W,W=(((((((j.setCell ⟨w.heap.size+1,0,none⟩ d).setCell ⟨w.heap.size+1,1,none⟩ e).setCell ⟨w.heap.size+1,2,none⟩ f).setCell ⟨w.heap.size+1,3,none⟩ v3).setCell ⟨w.heap.size+1,4,none⟩ g).setCell ⟨w.heap.size+1,5,none⟩ v5).setCell ⟨w.heap.size+1,6,none⟩ h).setCell ⟨w.heap.size+1,7,none⟩ i/\Qs F M w a W/\
   (loadVar 167 ⟨w.heap.size+1,0,none⟩).run prog W=.ok (.agg #[d,e,f,v3,g,v5,h,i]) W:=by
 refine⟨_,rfl,k.trans (Qs.QiM (F:=[w.heap.size+1]) k.fq kL.size kL.os kL.tape kL.output (λb _ c=>xO (by simpa using c)) λb c=>?_) λb c=>.inr (by rw[ZaI.1 c];omega),?_⟩
 ·grind
 ·exact run_loadVar_row (P:=prog) _ (w.heap.size+1) _ 167 _ _ _ (Av hz rfl) Tryz.underlying167 rfl (by kernel_rfl)
theorem xY {f:FuncId} {ya:List (AV D.E)->St D.E->C ah} {pre:ah->Prop} {res:ah->ah} (h:Ok (bL f ah ya pre (λy=>[.agg (D.bd 15 y)]) λy=>.agg (D.bd 15 (res y)))) {y:ah} (p:pre y) {M:Pm D} {w:World} {A:Array Value} {a:Nat} (n:dQ M H0 w) (o:TF M 0)
  (m:VR M (.agg (D.bd 15 y)) (.agg A)) (hz:w.heap[a]?=some (.cells z8 167 (0,0))):
  Calls prog f #[.agg A] w λe b=>∃(k:Pm D) (c:Option Addr) (sn d:Nat) (g:Option Addr) (un i:Nat),
   e=.returned (.agg #[.int .i64 (res y).op,.slice c sn d,.int .i64 (res y).mn,.int .i64 (res y).mx,.bool (res y).lz,.int .i64 (res y).cap,.int .i64 (res y).nk,.slice g un i])/\
   VR k (.agg (D.bd 15 (res y))) (.agg #[.int .i64 (res y).op,.slice c sn d,.int .i64 (res y).mn,.int .i64 (res y).mx,.bool (res y).lz,.int .i64 (res y).cap,.int .i64 (res y).nk,.slice g un i])/\
   Qs [] M w k b/\b.heap[a]?=some (.cells z8 167 (0,0))/\(∀j,b.cell? ⟨a,j,none⟩=z8[j]?)/\∀j,b.frozen? ⟨a,j,none⟩=false:=by
 refine h.2 y p M #[.agg A] w (.cons m .nil) n o _ λl u t r hs=>?_
 obtain⟨c,sn,d,g,un,i,rfl⟩:=EM r;have q:Qs [] M w l t:=Qs.FL hs;have s:=(q.aN a (B6 hz) (by simp)).trans hz;grind [iy,KG]
set_option maxHeartbeats 4000000 in
theorem QdI (g1:Ok HO) (g2:Ok HS) (g3:Ok HU):∀(n:Nat) (t:ah) (x:E8) (F:List Nat) (M:Pm D) (w:World),(aD t).length<=n->j3 t->dA t->TA M w t x F->F.Nodup->(∀c∈F,D.ng<=c/\∀o,M.sg c o=none)->dQ M H0 w->TF M 0->
  Calls prog 76 #[.agg x.1.toArray] w λe w'=>∃M' v',e=.returned v'/\VR M' (.agg (D.bd 15 (eH t))) v'/\Qs F M w M' w':=by
 intro n
 induction n with
 | zero=>
  intro t x F M w h
  cases t
  grind [aD]
 | succ n ih=>
  intro t x F M w hn hw ht E C hF hS hT
  obtain⟨op,r,mn,mx,lz,cap,nk,a⟩:=t
  have H:=hw
  rw[j3] at hw
  obtain⟨_,rfl,hks⟩:=hw
  replace H:=QiN H ht
  rw[aD] at hn
  rw[TA] at E
  obtain⟨vr,kv,l,G,hx,hvr,Y,ho,rfl,q⟩:=E
  obtain⟨ra,rn,rc,rfl⟩:=Au hvr
  have hll:=Ii q
  obtain⟨S,L,rfl,hrd,_⟩:=ho.rd
  rw[hll] at ho hF C hx ⊢
  rw[hx]
  have hL:a.length<=1000000:=ht.af.len
  have T:Hid (∀b∈gJ (.slice S a.length L)++G,D.ng<=b/\b<w.heap.size):=Lib.hid λb hb=>⟨(hF b hb).1,(Zax.1 hb).elim (vp ho b) (U2 _ _ _ q b)⟩
  have H1:=Lib.hid hx
  have H2:=Lib.hid ho
  have H3:=Lib.hid q
  have H4:=Lib.hid C
  have H5:=Lib.hid hF
  have H6:=Lib.hid H
  have H7:=Lib.hid ht
  have H8:=Lib.hid hll
  clear hx ho q C hF H ht hll hrd
  go_enter Tryz.func76,Tryz.ntmps76
  go_wp2_with fail
  have hzs:w.heap.size<w.heap.size+2:=ω
  go_loopg [3] a.length (λg i wr=>∃(k:Nat) (ld lr:List E8) (Gr:List Nat) (Mk:Pm D),k<=a.length/\g=a.length-k/\i=.int .i64 k/\
   wr.heap[w.heap.size]?=some (.cells #[.int .i64 op,.slice ra rn rc,.int .i64 mn,.int .i64 mx,.bool lz,.int .i64 cap,.int .i64 a.length,.slice S a.length L] 167 (0,0))/\
   wr.heap[w.heap.size+1]?=some (.cells #[.int .i64 0,.slice none 0 0,.int .i64 0,.int .i64 0,.bool false,.int .i64 0,.int .i64 0,.slice none 0 0] 167 (0,0))/\
   w.heap.size+2<=wr.heap.size/\SL M w a G (.slice S a.length L) k wr Mk ld lr Gr)
  case atStart=>
   refine⟨0,[],l,G,M,ω,rfl,rfl,?_,?_,by simp,?_⟩
   ·grind [Below.heap_alloc,heap_alloc_new]
   ·exact r9 (by simp) _
   ·have hB:=((Below.refl w.heap.size w).alloc (Zah _) (.cells #[.int .i64 op,.slice ra rn rc,.int .i64 mn,.int .i64 mx,.bool lz,.int .i64 cap,.int .i64 a.length,.slice S a.length L] 167)).alloc (by simp) (.cells #[.int .i64 0,.slice none 0 0,.int .i64 0,.int .i64 0,.bool false,.int .i64 0,.int .i64 0,.slice none 0 0] 167)
    refine⟨mE H2.out λb _ hl=>hB.block b hl,rfl,⟨rfl,λi v v' e=>(by simp[EL] at e)⟩,pK (ly M) _ _ _ H3.out λb _ hl=>hB.block b hl,⟨[],rfl⟩,λc p=>(H5.out c p).2,λo=>?_,Qs.FL (iS hS hB 0)⟩
    cases e:M.sg (w.heap.size+1) o with
    | none=>rfl
    | some u=>have:=hS.slt e;omega
  case round=>
   obtain⟨k,ld,lr,Gr,Mk,hk,rfl,rfl,X,hz,da,qo⟩:=hrel
   have d7:wr.cell? ⟨w.heap.size,7,none⟩=some (.slice S a.length L):=iy X 7
   have d0:wr.cell? ⟨w.heap.size,0,none⟩=some (.int .i64 op):=iy X 0
   have H9:=Lib.hid X
   have B:=Lib.hid hz
   have d:=Lib.hid qo
   have H12:=Lib.hid hks
   clear X hz qo hks
   by_cases Z:k<a.length
   ·obtain⟨f,P⟩:∃f,a[k]?=some f:=⟨_,Zaf Z⟩
    have hdk:a.drop k=f::a.drop (k+1):=by rw[Zaq Z,(Zam.1 P).2]
    have q:=d.out.af
    rw[hdk,KA] at q
    obtain⟨x1,lr',F1,F2,rfl,rfl,E,q⟩:=q
    obtain⟨g,kc',ek,_,hgl,_⟩:=d.out.own.form (by simp)
    have s:(ld++x1::lr').length=a.length:=by
     grind
    rw[s] at ek
    cases ek
    obtain⟨qa,qn,qc,pa,pn,pc,ex⟩:=xN E
    have hgw:g<w.heap.size:=vp H2.out g (ZaI.2 rfl)
    have hgn:g≠w.heap.size:=ω
    have hgm:w.heap.size≠g:=ω
    obtain⟨m,hfz,_⟩:=U_ d.out.own s d.out.len
    have hcall:Calls prog 76 #[.agg #[.int .i64 f.op,.slice qa qn qc,.int .i64 f.mn,.int .i64 f.mx,.bool f.lz,.int .i64 f.cap,.int .i64 f.nk,.slice pa pn pc]] wr.drew λe A=>∃(M1:Pm D) (sa:Option Addr) (sn sc:Nat) (ua:Option Addr) (un uc:Nat),
      e=.returned (.agg #[.int .i64 (eH f).op,.slice sa sn sc,.int .i64 (eH f).mn,.int .i64 (eH f).mx,.bool (eH f).lz,.int .i64 (eH f).cap,.int .i64 (eH f).nk,.slice ua un uc])/\
      VR M1 (.agg (D.bd 15 (eH f))) (.agg #[.int .i64 (eH f).op,.slice sa sn sc,.int .i64 (eH f).mn,.int .i64 (eH f).mx,.bool (eH f).lz,.int .i64 (eH f).cap,.int .i64 (eH f).nk,.slice ua un uc])/\
      Qs F1 Mk wr M1 A/\A.cell? ⟨w.heap.size,7,none⟩=some (.slice (some ⟨g,0,none⟩) a.length L)/\(A.cell? ⟨g,k*8,none⟩=some (.int .i64 f.op)/\A.cell? ⟨g,k*8+1,none⟩=some (.slice qa qn qc)/\A.cell? ⟨g,k*8+2,none⟩=some (.int .i64 f.mn)/\A.cell? ⟨g,k*8+3,none⟩=some (.int .i64 f.mx)/\A.cell? ⟨g,k*8+4,none⟩=some (.bool f.lz)/\A.cell? ⟨g,k*8+5,none⟩=some (.int .i64 f.cap)/\A.cell? ⟨g,k*8+6,none⟩=some (.int .i64 f.nk)/\A.cell? ⟨g,k*8+7,none⟩=some (.slice pa pn pc))/\(∀o,A.frozen? ⟨g,o,none⟩=false)/\g<A.heap.size:=by
     have e1:(#[.int .i64 f.op,.slice qa qn qc,.int .i64 f.mn,.int .i64 f.mx,.bool f.lz,.int .i64 f.cap,.int .i64 f.nk,.slice pa pn pc]:Array Value)=x1.1.toArray:=by rw[ex]
     have hfl:aA a=aA (a.take k)++(aD f++aA (a.drop (k+1))):=by rw[<-ei,<-hdk,<-cz,ZaO]
     have htr:dA f:=by
      have:=H7.out.af.get Z
      rwa [show((ah.mk op r mn mx lz cap (a.length:Int) a).af.getD k bA)=f by show a.getD k bA=f;rw[eo Z];exact(Zam.1 P).2] at this
     obtain⟨Gd,U⟩:=d.out.sub
     have C:=H4.out
     rw[U] at C
     have hnF:=(ZbR.1 (ZbR.1 (ZbR.1 C).2.1).2.1).1
     have hgF:g ∉ F1:=λe=>(ZbR.1 C).2.2 g (ZaI.2 rfl) g (ZaC _ (Zay _ e)) rfl
     have hin1:∀c∈F1,D.ng<=c/\c<w.heap.size:=λc p=>T.out c (ZaC _ (by rw[U];exact ZaC _ (Zay _ p)))
     rw[e1]
     refine(ih f x1 F1 Mk wr.drew (by rw[Zae,hfl,Zab,Zab] at hn;omega) ((pH a).1 H12.out f (ZaJ P)) htr (vk (ly Mk) _ _ _ E λ_ _ _=>rfl) hnF (λc p=>⟨(hin1 c p).1,d.out.un c (ZaC _ (Zay _ p))⟩) (cP.uL d.out.qs.fq 0).fq λb hb=>(d.out.qs.pl b).trans (hT b hb)).mono ?_
     rintro e A ⟨M1,v',rfl,hv,O⟩
     have hq':Qs F1 Mk wr M1 A:=⟨O.le,O.fq,O.pl,O.sb,O.size,O.aN,O.os,O.tape,O.output⟩
     obtain⟨sa,sn,sc,ua,un,uc,rfl⟩:=EM hv
     have hown:pX A (.slice (some ⟨g,0,none⟩) a.length L) (ld++x1::lr'):=mE d.out.own λb hb' hl=>hq'.aN b hl (by rw[ZaI.1 hb'];exact hgF)
     obtain⟨r1,r2,r3⟩:=U_ hown s d.out.len
     refine⟨M1,sa,sn,sc,ua,un,uc,rfl,hv,hq',?_,⟨r1 0 _ ω (by rw[ex];rfl),r1 1 _ ω (by rw[ex];rfl),r1 2 _ ω (by rw[ex];rfl),r1 3 _ ω (by rw[ex];rfl),r1 4 _ ω (by rw[ex];rfl),r1 5 _ ω (by rw[ex];rfl),r1 6 _ ω (by rw[ex];rfl),r1 7 _ ω (by rw[ex];rfl)⟩,r2,r3⟩
     rw[iy ((hq'.aN w.heap.size ω λe=>by have:=(hin1 _ e).2;omega).trans H9.out)]
     rfl
    have c0:=m 0 _ ω (by rw[ex];rfl)
    have c1:=m 1 _ ω (by rw[ex];rfl)
    have c2:=m 2 _ ω (by rw[ex];rfl)
    have c3:=m 3 _ ω (by rw[ex];rfl)
    have c4:=m 4 _ ω (by rw[ex];rfl)
    have c5:=m 5 _ ω (by rw[ex];rfl)
    have c6:=m 6 _ ω (by rw[ex];rfl)
    have c7:=m 7 _ ω (by rw[ex];rfl)
    have b0:(0:Int)<=(k:Int):=ω
    have b1:(k:Int)<(a.length:Int):=ω
    have H13:=Lib.hid q
    have H14:=Lib.hid E
    have H15:=Lib.hid P
    have H16:=Lib.hid ex
    have H17:=Lib.hid s
    clear q E P m hdk s
    simp only[Zbn] at c0
    go_wp2_with fail
    go_region_with
     (first | (go_at_call 76;refine hcall.mono ?_;rintro e A ⟨M1,sa,sn,sc,ua,un,uc,rfl,hv1,hq1,m0,⟨e0,e1,e2,e3,e4,e5,e6,e7⟩,m2,m3⟩))
    all_goals
     go_wp2_with fail
     go_roundg (a.length-(k+1))
     case measure=>omega
     case rel=>
      have hF1:∀c,w.heap.size<=c->c ∉ F1:=λc p e=>by
       obtain⟨Gd,U⟩:=d.out.sub
       have:=(T.out c (ZaC _ (by rw[U];exact ZaC _ (Zay _ e)))).2
       omega
      refine⟨k+1,_,lr',F2,M1,ω,rfl,by go_num,?_,?_,?_,SL.round d.out H13.out H15.out H17.out H4.out T.out da hq1 hv1 (by simp[Value.oneCell'])⟩
      ·exact(lB hgm).trans ((hq1.aN _ ω (hF1 _ ω)).trans H9.out)
      ·exact(lB ω).trans ((hq1.aN _ ω (hF1 _ ω)).trans B.out)
      ·exact Zav da (Zav hq1.size jw.size)
   ·obtain rfl:k=a.length:=ω
    obtain⟨R,V,QiO⟩:∃R,Qs (gJ (.slice S a.length L)) Mk wr R wr/\VR R (.list 15 (cR a)) (.slice S a.length L):=by
     have hk0:=d.out.af
     rw[ZbH,KA] at hk0
     obtain⟨rfl,rfl⟩:=hk0
     have ho:=d.out.own
     have hr:=d.out.rows
     rw[Zaw] at ho
     rw[ZaA (by rw[nE];exact Zah _)] at hr
     exact U' d.out.qs.fq ho hr (λc p=>d.out.un c (Zay _ p)) (by rw[d.out.len,nE])
    have hq2:Qs (gJ (.slice S a.length L)++G) M w R wr:=d.out.qs.trans V λc p=>.inl (Zay _ p)
    have hu2:∀o,R.sg (w.heap.size+1) o=none:=λo=>by
     cases e:R.sg (w.heap.size+1) o with
     | none=>rfl
     | some u=>
      rcases V.sb _ o (by rw[e];simp) with K | K | K
      ·exact absurd (d.out.un2 o) K
      ·omega
      ·have:=(T.out _ (Zay _ K)).2;omega
    have hu3:∀(I:Pm D) (w3:World),Qs [] R wr I w3->∀o,I.sg (w.heap.size+1) o=none:=λI w3 O o=>by
     cases e:I.sg (w.heap.size+1) o with
     | none=>rfl
     | some u=>
      rcases O.sb _ o (by rw[e];simp) with K | K | K
      ·exact absurd (hu2 o) K
      ·omega
      ·cases K
    have hT2:TF R 0:=λb hb=>(hq2.pl b).trans (hT b hb)
    have hA:VR R (.agg (D.bd 15 (.mk op r mn mx lz cap (a.length:Int) (cR a)))) (.agg #[.int .i64 op,.slice ra rn rc,.int .i64 mn,.int .i64 mx,.bool lz,.int .i64 cap,.int .i64 a.length,.slice S a.length L]):=by
     simp only[ZaW] at Y
     obtain⟨⟨⟨⟨i0,i2⟩,i3⟩,i5⟩,i6⟩:=Y
     exact VR.CC (.cons (.int i0) (.cons (hvr.mono hq2.le) (.cons (.int i2) (.cons (.int i3) (.cons (.bool lz) (.cons (.int i5) (.cons (.int i6) (.cons QiO .nil))))))))
    have N_:=hS.lM.1.1
    have hcb:∀j,wr.cell? ⟨w.heap.size,j,none⟩=(#[.int .i64 op,.slice ra rn rc,.int .i64 mn,.int .i64 mx,.bool lz,.int .i64 cap,.int .i64 a.length,.slice S a.length L]:Array Value)[j]?:=λj=>iy H9.out j
    have hcz:∀j,wr.cell? ⟨w.heap.size+1,j,none⟩=z8[j]?:=λj=>iy B.out j
    have hfz:∀j,wr.frozen? ⟨w.heap.size+1,j,none⟩=false:=KG B.out
    have I1:=Lib.hid V
    have I2:=Lib.hid hq2
    have I3:=Lib.hid hu2
    have I4:=Lib.hid hu3
    have I5:=Lib.hid hA
    have I6:=Lib.hid Y
    have I7:=Lib.hid hT2
    clear V hq2 hu2 hu3 hA Y QiO hT2 hvr d0 d7
    have hD:eH (.mk op r mn mx lz cap (a.length:Int) a)=byD (.mk op r mn mx lz cap (a.length:Int) (cR a)):=by rw[eH]
    have I8:=Lib.hid hD
    clear hD
    by_cases h3:op=3
    ·subst h3
     have p:=xY g1 (H6.out.1 rfl) I2.out.fq I7.out I5.out B.out
     have N:=I8.out.trans ((Zac rfl).trans (aI (HN _)).symm)
     have J:=Lib.hid N
     clear N
     go_wp2_with (go_at_call 113;go_must (refine p.mono ?_;rintro e w3 ⟨I,sa,sn,sc,ua,un,uc,rfl,z,y,Q,QiP,QiQ⟩))
     obtain⟨W,hW,hQ,hl⟩:=vt (I2.out.trans y (λc p=>nomatch p)) Q (I4.out I w3 y) N_ z
     rw[<-hW]
     refine bodyPost_ret (pL rfl _ rfl hl) rfl ⟨I,_,rfl,?_,hQ⟩
     rw[J.out]
     exact z
    ·by_cases K:op=4
     ·subst K
      have p:=xY g2 (H6.out.2.1 rfl) I2.out.fq I7.out I5.out B.out
      have N:=I8.out.trans ((Zaa h3).trans ((Zac rfl).trans (aI (HR _)).symm))
      have J:=Lib.hid N
      clear N
      go_wp2_with (go_at_call 114;go_must (refine p.mono ?_;rintro e w3 ⟨I,sa,sn,sc,ua,un,uc,rfl,z,y,Q,QiP,QiQ⟩))
      obtain⟨W,hW,hQ,hl⟩:=vt (I2.out.trans y (λc p=>nomatch p)) Q (I4.out I w3 y) N_ z
      rw[<-hW]
      refine bodyPost_ret (pL rfl _ rfl hl) rfl ⟨I,_,rfl,?_,hQ⟩
      rw[J.out]
      exact z
     ·by_cases h5:op=5
      ·subst h5
       have p:=xY g3 (H6.out.2.2 rfl) I2.out.fq I7.out I5.out B.out
       have N:=I8.out.trans (((Zaa h3).trans (Zaa K)).trans ((Zac rfl).trans (aI (cQ _)).symm))
       have J:=Lib.hid N
       clear N
       go_wp2_with (go_at_call 115;go_must (refine p.mono ?_;rintro e w3 ⟨I,sa,sn,sc,ua,un,uc,rfl,z,y,Q,QiP,QiQ⟩))
       obtain⟨W,hW,hQ,hl⟩:=vt (I2.out.trans y (λc p=>nomatch p)) Q (I4.out I w3 y) N_ z
       rw[<-hW]
       refine bodyPost_ret (pL rfl _ rfl hl) rfl ⟨I,_,rfl,?_,hQ⟩
       rw[J.out]
       exact z
      ·have N:=I8.out.trans (((Zaa h3).trans (Zaa K)).trans (Zaa h5))
       have J:=Lib.hid N
       clear N
       go_wp2_with fail
       obtain⟨W,hW,hQ,hl⟩:=vt I2.out B.out I3.out N_ I5.out
       rw[<-hW]
       refine bodyPost_ret (pL rfl _ rfl hl) rfl ⟨R,_,rfl,?_,hQ⟩
       rw[J.out]
       exact I5.out
end sx
namespace sx
open Go Go.RowKit cls syn sl
variable {M:Pm D} {w:World} {y:List Nd}
def Qs.Qa6 {a:Pm D} {d:World} (h:Qs [] M w a d):cP H0 M w H0 a d 0 0:=
 ⟨h.fq,λb _=>h.pl b,h.le.2,λb o e=>(h.sb b o e).imp_right (λk=>k.elim .inl λk=>(nomatch k)),h.size,λc f _=>h.aN c f (by simp),λ_ _ _ e=>(by cases e),λ_ e=>absurd rfl e,h.os,h.tape,h.output,Zah _⟩
def KQ {f:FuncId} {Y:Type} {ya:List (AV D.E)->St D.E->C Y} {pre:Y->Prop} {a r:Y->AV D.E} (h:Ok (bL f Y ya pre (λy=>[a y]) r)) {y:Y} (j:pre y) {v:Value} (g:dQ M H0 w) (i:TF M 0) (d:VR M (a y) v):
  Calls prog f #[v] w λe m=>∃(b:Pm D) (u:Value),e=.returned u/\VR b (r y) u/\Qs [] M w b m:=
 h.2 y j M #[v] w (.cons d .nil) g i _ λc l _ k hs=>⟨c,l,rfl,k,Qs.FL hs⟩
def Z9 {t:ah} (h1:j3 t) (q:y=aD t) (v:y.length<=480) {m:Option Addr} {n vc:Nat} (s:VR M (.list 7 y) (.slice m n vc)) (r:dQ M H0 w):
  Calls prog 74 #[.slice m n vc,.int .i64 0] w λe p=>∃(x:E8) (F:List Nat) (g:Option Addr) (k j:Nat) (d:Option Addr) (f pc:Nat) (i:Int),
   e=.returned (.tuple #[.agg #[.int .i64 t.op,.slice g k j,.int .i64 t.mn,.int .i64 t.mx,.bool t.lz,.int .i64 t.cap,.int .i64 t.nk,.slice d f pc],.int .i64 i])/\
   (x.1=[.int .i64 t.op,.slice g k j,.int .i64 t.mn,.int .i64 t.mx,.bool t.lz,.int .i64 t.cap,.int .i64 t.nk,.slice d f pc])/\TA M p t x F/\F.Nodup/\(∀c∈F,w.heap.size<=c)/\Below w.heap.size w p:=by
 have a:1<=y.length:=by rw[q];exact rZ t
 generalize hu:(Value.slice m n vc)=u at s;have h:∃(b o cap:Nat),u=.slice (some ⟨b,o,none⟩) y.length cap/\y.length<=cap/\Rd M w b o (aW (D:=D) 7 y)/\b<w.heap.size:=by
  cases s with
  | @list c b o cap xs hs C l=>exact⟨b,o,cap,rfl,l,ph gE r hs,r.slt (hs 0 a 0 _ rfl)⟩
  | eD=>exact absurd a (by decide)
 obtain⟨b,o,cap,e,l,z,A⟩:=h;rw[e];refine(Z3 (Zav v (by decide)) l (aD t).length t 0 [] w (Zah _) h1 (by rw[Zaw,<-q];rfl) z A).mono ?_;rintro B p ⟨x,F,rfl,k1,k2,k3,k4⟩;obtain⟨g,k,j,d,f,pc,ex⟩:=xN k1;exact⟨x,F,g,k,j,d,f,pc,_,by rw[ex],ex,k1,k2,k3,k4⟩
def Z' {t:ah} {A:List Value} (h1:j3 t) (n:dA t) {x:E8} {F:List Nat} {a:World} {o:Obj} (ex:x.1=A) (j:TA M a t x F) (i:F.Nodup) (f:∀c∈F,w.heap.size<=c) (k:Below w.heap.size w a) (g:dQ M H0 w) (p:TF M 0):
  Calls prog 76 #[.agg A.toArray] (a.alloc o) λe m=>∃(b:Pm D) (v:Value),e=.returned v/\VR b (.agg (D.bd 15 (eH t))) v/\Qs [] M w b m:=by
 subst ex;have hs:=k.size;have h:Below w.heap.size w (a.alloc o):=k.alloc hs o;have l:Qs [] M w M (a.alloc o):=Qs.FL (iS g h 0);refine(QdI Qib Qif Qig _ t x F M (a.alloc o) (Zah _) h1 n (vk (ly M) _ _ _ j λc _ hl=>Below.heap_alloc _ _ _ hl) i (λc d=>⟨Zav g.lM.1.1 (f c d),λo=>?_⟩) l.fq p).mono ?_
 ·cases e:M.sg c o with
  | none=>rfl
  | some u=>have:=g.slt e;have:=f c d;omega
 ·rintro e m ⟨b,v,rfl,k1,k2⟩;exact⟨b,v,rfl,k1,l.trans k2 λc d=>.inr (f c d)⟩
set_option maxHeartbeats 4000000 in
theorem Z_ (hm:Ok gG) (H:nM y) {v:Value} (C:dQ M H0 w) (E:TF M 0) (q:VR M (.list 7 y) v):
  Calls prog 41 #[v] w λe w'=>∃(S:Pm D) (W:Value),e=.returned W/\VR S (.list 7 (lk (cJ y))) W/\Qs [] M w S w':=by
 have G:Calls prog 73 #[v] w λe X=>∃(z:Pm D) (u:Value),e=.returned u/\VR z (.bool (dE y)) u/\Qs [] M w z X:=KQ (f:=73) (QaL hm) (y:=y) H C E q
 obtain⟨va,vn,vc,rfl⟩:=Au q
 by_cases d:dE y=true
 ·obtain⟨t,h1,A,B⟩:=iU d
  have k:cJ y=aD (eH t):=by
   unfold cJ
   rw[Zac d,A,oV h1,Az h1]
  have I:=Lib.hid k
  have r:=Lib.hid h1
  rw[d] at G
  have hlen:=B
  have V:1<=y.length:=by rw[A];exact rZ t
  have O:=Lib.hid A
  have Y:=Lib.hid H
  have Z:=Lib.hid q
  have H5:=Lib.hid C
  have H6:=Lib.hid E
  clear k h1 A H q C E d
  go_enter Tryz.func41,Tryz.ntmps41
  go_wp2_with (go_at_call 73;go_must (refine G.mono ?_;rintro e w1 ⟨s,u,rfl,hu,a⟩;obtain rfl:=nB hu;clear hu))
  have m:TF s 0:=λb L=>(a.pl b).trans (H6.out b L)
  have P:=Lib.hid m
  have Q:=Lib.hid a
  have J:=Z9 r.out O.out B (Z.out.mono a.le) a.fq
  refine J.mono ?_
  rintro e w2 ⟨x,F,qa,qn,qc,pa,pn,pc,i,rfl,ex,k1,k2,k3,k4⟩
  have g:dA t:=by
   have h:=O.out
   have U:=Y.out
   rw[h] at U B
   exact⟨Zav B (by decide),U⟩
  have K4:=Z' (o:=.cells #[.int .i64 t.op,.slice qa qn qc,.int .i64 t.mn,.int .i64 t.mx,.bool t.lz,.int .i64 t.cap,.int .i64 t.nk,.slice pa pn pc] 167) r.out g ex k1 k2 k3 k4 Q.out.fq P.out
  have R:=Lib.hid g
  have K6:=Lib.hid J
  clear k1 k2 k3 k4 ex m a g J
  go_wp2_with (go_at_call 76;go_must (refine K4.mono ?_;rintro e X ⟨z,u,rfl,hu,j⟩))
  have K:TF z 0:=λb L=>(j.pl b).trans (P.out b L)
  have hk:dA (eH t):=by
   have a1:=Az r.out
   have a2:=(pG t (Ec t r.out) ⟨Zah _,R.out.2⟩).2
   rw[<-a1] at a2
   exact⟨Zav a2.1 R.out.1,a2.2⟩
  have hl:=KQ QaZ hk j.fq K hu
  refine hl.mono ?_
  rintro e w4 ⟨T,u4,rfl,p,N⟩
  have K7:=Lib.hid p
  clear p hl hk
  go_wp2_with fail
  go_ret
  refine⟨T,_,rfl,?_,(Q.out.trans j λc d=>(nomatch d)).trans N λc d=>(nomatch d)⟩
  have e:cZ (eH t)=lk (cJ y):=by rw[aI,I.out];unfold cZ;rw[aI]
  have hz:∀l:List Nd,cZ (eH t)=l->VR T (.list 7 l) u4:=λl h=>by subst h;exact K7.out
  exact hz _ e
 ·have n:dE y=false:=by simpa using d
  rw[n] at G
  have hs:cJ y=[]:=by unfold cJ;rw[Zaa d]
  have I:=Lib.hid hs
  clear hs d n q C E H
  go_enter Tryz.func41,Tryz.ntmps41
  go_wp2_with (go_at_call 73;go_must (refine G.mono ?_;rintro e w1 ⟨s,u,rfl,hu,a⟩;obtain rfl:=nB hu;clear hu))
  go_ret
  refine⟨s,_,rfl,?_,a⟩
  have hz:∀l:List Nd,l=[]->VR s (.list 7 l) (.slice none 0 0):=λl h=>by subst h;exact .eD
  exact hz _ ((aI _).trans I.out)
def QiR (i:Ok gG):Ok ZN:=by
 refine⟨⟨f41,_,by kernel_rfl,cH (by kernel_rfl)⟩,λy k M A w c f g R d=>?_⟩;obtain⟨v,rfl,j⟩:=wX c;exact(Z_ i k f g j).mono λe m ⟨a,l,h,h1,b⟩=>by rw[h];exact d a l m h1 b.Qa6
end sx
namespace sx
open Go Go.RowKit Go.Maps cls syn
set_option maxRecDepth 100000
variable {M:Pm D} {w:World} {b o i:Nat} {v:Value} {E:DataW Unit} {Z:aK}
theorem si {xs:List (D.E b)} (hz:∀x:D.E b,∃u,(D.bd b x)[0]?=some u) (d:dQ M H0 w) (h:VR M (.list b xs) v):
  ∃a cap,v=.slice a xs.length cap/\(0<xs.length->∃c o,a=some ⟨c,o,none⟩/\Rd M w c o (aW (D:=D) b xs)/\c<w.heap.size):=by
 cases h with
 | @list b c o cap xs hs g f=>exact⟨_,cap,rfl,λe=>let ⟨u,hu⟩:=hz xs[0];⟨c,o,rfl,ph gE d hs,d.slt (hs 0 e 0 u hu)⟩⟩
 | eD=>exact⟨_,_,rfl,λh=>absurd h (Nat.lt_irrefl 0)⟩
theorem QdJ {p:eu} (h:VR M (yc p) v):∃c s,v=.agg #[c,s]/\VR M (.list 8 p.ab) c/\VR M (.list 5 p.aj) s:=by
 cases h with | @agg _ A h1 a=>?_
 obtain⟨l⟩:=A;obtain⟨c,s,e,b,d⟩:=DH ⟨h1,a⟩;grind
def δ {l:dh} (h:VR M (.agg (D.bd 2 l)) v):∃t,v=.agg #[.bool l.done,.int .i64 l.c0,.int .i64 l.c1,.int .i64 l.c2,.int .i64 l.c3,.int .i64 l.c4,.int .i64 l.c5,.int .i64 l.c6,.int .i64 l.c7,.int .i64 l.c8,.int .i64 l.c9,t]/\VR M (.list 1 l.aB) t:=by
 cases h with | @agg _ A h1 g=>?_
 obtain⟨A⟩:=A;have h:LR M (D.bd 2 l) A:=⟨h1,g⟩;cases l;obtain⟨i,A,rfl,a0,h⟩:=h.bD;obtain⟨j,A,rfl,c,h⟩:=h.bD;obtain⟨k,A,rfl,a2,h⟩:=h.bD;obtain⟨v3,A,rfl,a3,h⟩:=h.bD;obtain⟨m,A,rfl,a4,h⟩:=h.bD;obtain⟨v5,A,rfl,a5,h⟩:=h.bD;obtain⟨n,A,rfl,d,h⟩:=h.bD;obtain⟨o,A,rfl,e,h⟩:=h.bD;obtain⟨p,A,rfl,f,h⟩:=h.bD;obtain⟨v9,A,rfl,a9,h⟩:=h.bD;obtain⟨v10,A,rfl,a,h⟩:=h.bD;obtain⟨v11,A,rfl,b,h⟩:=h.bD;obtain rfl:=h.kW;obtain rfl:=nB a0;obtain rfl:=fk c;obtain rfl:=fk a2;obtain rfl:=fk a3;obtain rfl:=fk a4;obtain rfl:=fk a5;obtain rfl:=fk d;obtain rfl:=fk e;obtain rfl:=fk f;obtain rfl:=fk a9;obtain rfl:=fk a;exact⟨_,rfl,b⟩
def KR {f:FuncId} {Y:Type} {ya:List (AV D.E)->St D.E->C Y} {pre:Y->Prop} {a b r:Y->AV D.E} (h:Ok (bL f Y ya pre (λy=>[a y,b y]) r)) {y:Y} (l:pre y) {u:Value} (j:dQ M H0 w) (k:TF M 0) (g:VR M (a y) v) (i:VR M (b y) u):
  Calls prog f #[v,u] w λe o=>∃(c:Pm D) (z:Value),e=.returned z/\VR c (r y) z/\Qs [] M w c o:=
 h.2 y l M #[v,u] w (.cons g (.cons i .nil)) j k _ λd n _ m hs=>⟨d,n,rfl,m,Qs.FL hs⟩
def QiS {ab:List aS} (h:Rd M w b o (aW (D:=D) 8 ab)) (hi:i<ab.length):w.cell? ⟨b,o+i*4,none⟩=some (.int .i64 (ab.getD i ⟨0,0,0,[]⟩).op):=by
 obtain⟨v,h1,a⟩:=jY gE h hi 0 _ rfl;obtain rfl:=fk a;rw[Zag,Zaf hi];exact h1
def QiT {a:List Bool} (h:Rd M w b o (aW (D:=D) 17 a)) (hi:i<a.length):w.cell? ⟨b,o+i,none⟩=some (.bool (a.getD i false)):=by
 obtain⟨v,h1,c⟩:=jY gE h hi 0 _ rfl;obtain rfl:=nB c;rw[Zag,Zaf hi];rw[show o+i=o+i*D.size 17+0 by show _=o+i*1+0;omega];exact h1
def QiU {xs:List Int} {x:Int} (h:Rd M w b o (aW (D:=D) 5 xs)) (d:xs[i]?=some x):w.cell? ⟨b,o+i,none⟩=some (.int .i64 x)/\iY .i64 x:=by
 obtain⟨hi,rfl⟩:=Zam.1 d;obtain⟨v,h1,a⟩:=jY gE h hi 0 _ rfl;obtain⟨rfl,c⟩:=ec a;rw[show o+i=o+i*D.size 5+0 by show _=o+i*1+0;omega];exact⟨h1,c⟩
def Im {H:Type} {P:Program} (w:World) {ops:Array Oper} {rest:List Oper} {o:Oper} {a:Act} {Q:Exit->Act->World->Prop} (r:o.guard=none) (m x v:Operand) (t:TypeId) (l:o.op=Op.insert t m x v)
  (k e:TypeId) (K:Keyed P k) (ht:P.underlying t=some (.map k e)) (R:Value->Option (DataW H×List MemPlace)) (b n:Nat) (D:DataW H) (s:a.eval m=.map (some b)) (f:w.ownsMap P k R b n D) (u:n<maxLen) (key val:Value) (p:Lit)
  (z:a.eval x=key) (y:a.eval v=val) (c:keyOf P k key=some p) (d:DataW H) (A:List MemPlace) (h:R val=some (d,A))
  (q:∀i,i.ownsMap P k R b (n+1) (D.put p d)->w.grownBy i (some b)->wpList P ops Q rest (a.put o.dst Go.undef) i):wpList P ops Q (o::rest) a w:=by
 refine wpList_plain r λE j=>?_
 obtain⟨i,g,B,C⟩:=f.update K ht u c h;unfold Oper.wp;simp[execOp,l,s,z,y,g,Result.andThen];exact j _ _ (q i B C)
def Mp (E:DataW Unit) (F:Int->Bool):Prop:=IsMap E/\∀j:Int,E.atKey (.int .i64 j) (.lit (.int .i64 0))=.lit (.int .i64 (if F j=true then 1 else 0))
theorem Mp.nil:Mp (.map []) λ_=>false:=⟨⟨_,rfl⟩,λ_=>rfl⟩
theorem Mp.put {F:Int->Bool} (h:Mp E F) (j:Int) (b:Bool):Mp (E.put (.int .i64 j) (.lit (.int .i64 (if b=true then 1 else 0)))) λk=>if k=j then b else F k:=by
 refine⟨h.1.put _ _,λk=>?_⟩;by_cases e:k=j
 ·subst e;simp only[Zbv];exact atKey_put_same h.1 (by simp[WideAt.IsKeyLit]) _ _
 ·rw[atKey_put_other (by grind),h.2 k];grind
def QiV {xs:List aK} (h:Rd M w b o (aW (D:=D) 1 xs)) (ht:xs[i]?=some Z):
  w.cell? ⟨b,o+i*11,none⟩=some (.int .i64 Z.pc)/\w.cell? ⟨b,o+i*11+1,none⟩=some (.int .i64 Z.c0)/\w.cell? ⟨b,o+i*11+2,none⟩=some (.int .i64 Z.c1)/\w.cell? ⟨b,o+i*11+3,none⟩=some (.int .i64 Z.c2)/\w.cell? ⟨b,o+i*11+4,none⟩=some (.int .i64 Z.c3)/\
  w.cell? ⟨b,o+i*11+5,none⟩=some (.int .i64 Z.c4)/\w.cell? ⟨b,o+i*11+6,none⟩=some (.int .i64 Z.c5)/\w.cell? ⟨b,o+i*11+7,none⟩=some (.int .i64 Z.c6)/\w.cell? ⟨b,o+i*11+8,none⟩=some (.int .i64 Z.c7)/\w.cell? ⟨b,o+i*11+9,none⟩=some (.int .i64 Z.c8)/\w.cell? ⟨b,o+i*11+10,none⟩=some (.int .i64 Z.c9)/\
  iY .i64 Z.pc/\∀x∈nP Z,iY .i64 x:=by
 obtain⟨hi,rfl⟩:=Zam.1 ht;have k:=jY gE h hi;obtain⟨G,a0,j⟩:=k 0 _ rfl;obtain⟨H,d,b1⟩:=k 1 _ rfl;obtain⟨I,a2,l⟩:=k 2 _ rfl;obtain⟨v3,a3,m⟩:=k 3 _ rfl;obtain⟨J,a4,n⟩:=k 4 _ rfl;obtain⟨v5,a5,p⟩:=k 5 _ rfl;obtain⟨K,e,q⟩:=k 6 _ rfl;obtain⟨L,f,r⟩:=k 7 _ rfl;obtain⟨N,g,b8⟩:=k 8 _ rfl;obtain⟨v9,a9,s⟩:=k 9 _ rfl;obtain⟨v10,a,c⟩:=k 10 _ rfl;obtain⟨rfl,u⟩:=ec j;obtain⟨rfl,v⟩:=ec b1;obtain⟨rfl,y⟩:=ec l;obtain⟨rfl,z⟩:=ec m;obtain⟨rfl,A⟩:=ec n;obtain⟨rfl,B⟩:=ec p;obtain⟨rfl,C⟩:=ec q;obtain⟨rfl,E⟩:=ec r;obtain⟨rfl,d8⟩:=ec b8;obtain⟨rfl,F⟩:=ec s;obtain⟨rfl,d10⟩:=ec c;exact⟨a0,d,a2,a3,a4,a5,e,f,g,a9,a,u,by simp[nP];exact⟨v,y,z,A,B,C,E,d8,F,d10⟩⟩
def ε (ht:∀x∈nP Z,iY .i64 x):VR M (.agg [.int .i64 Z.c0,.int .i64 Z.c1,.int .i64 Z.c2,.int .i64 Z.c3,.int .i64 Z.c4,.int .i64 Z.c5,.int .i64 Z.c6,.int .i64 Z.c7,.int .i64 Z.c8,.int .i64 Z.c9])
  (.agg #[.int .i64 Z.c0,.int .i64 Z.c1,.int .i64 Z.c2,.int .i64 Z.c3,.int .i64 Z.c4,.int .i64 Z.c5,.int .i64 Z.c6,.int .i64 Z.c7,.int .i64 Z.c8,.int .i64 Z.c9]):=by
 simp only[nP,Zbf,Zds,Zdt,forall_eq_or_imp,forall_eq] at ht;obtain⟨h0,h1,a,b,c,d,e,f,g,i⟩:=ht;have h:LR M [.int .i64 Z.c0,.int .i64 Z.c1,.int .i64 Z.c2,.int .i64 Z.c3,.int .i64 Z.c4,.int .i64 Z.c5,.int .i64 Z.c6,.int .i64 Z.c7,.int .i64 Z.c8,.int .i64 Z.c9] [.int .i64 Z.c0,.int .i64 Z.c1,.int .i64 Z.c2,.int .i64 Z.c3,.int .i64 Z.c4,.int .i64 Z.c5,.int .i64 Z.c6,.int .i64 Z.c7,.int .i64 Z.c8,.int .i64 Z.c9]:=
  .cons (.int h0) <| .cons (.int h1) <| .cons (.int a) <| .cons (.int b) <| .cons (.int c) <| .cons (.int d) <| .cons (.int e) <| .cons (.int f) <| .cons (.int g) <| .cons (.int i) .nil
 exact .agg h.1 h.2
def AD {a:World} {k:TypeId} {R:Value->Option (DataW Unit×List MemPlace)} (h:w.ownsMap prog k R b o E) (e:a.heap[b]?=w.heap[b]?):a.ownsMap prog k R b o E:=by
 obtain⟨es,clock,c,r⟩:=h;exact⟨es,clock,e.trans c,r⟩
def Nw:Keyed prog 3:=int_keyed Tryz.underlying3
def Va (w:World):(zeroValue 3).run prog w=.ok (.int .i64 0) w:=by kernel_rfl
set_option maxHeartbeats 4000000 in
theorem ζ {p:eu} {l:dh} {m st:Int} (hr:b<p.aj.length) (hst:p.aj[b]?=some st) (pv:Ma (p.ab,st)) (hn:l.aB.length<=1000000) {lv:Value} (hS:dQ M H0 w) (hT:TF M 0)
  (hm:iY .i64 m=true) (hp:VR M (yc p) v) (hl:VR M (.agg (D.bd 2 l)) lv):
  Calls prog 133 #[v,.int .i64 b,lv,.int .i64 m] w λe w'=>∃(M':Pm D),e=.returned (.bool (uE ⟨p,b,l,m⟩))/\Qs [] M w M' w':=by
 obtain⟨cv,sv,rfl,hcv,hsv⟩:=QdJ hp
 obtain⟨tv,rfl,htv⟩:=δ hl
 obtain⟨sa,X,rfl,P⟩:=si (λx=>⟨_,rfl⟩) hS hsv
 obtain⟨sb,so,rfl,hsr,hsb⟩:=P (Nat.lt_of_le_of_lt (Zaj _) hr)
 have hcs:=QiU hsr hst
 obtain⟨hcs,hin⟩:=hcs
 obtain⟨ca,A,rfl,hc2⟩:=si (λx=>⟨_,rfl⟩) hS hcv
 have hb0:(0:Int)<=(b:Int):=ω
 have kP:(b:Int)<(p.aj.length:Int):=ω
 obtain⟨ta,QiW,rfl,ht2⟩:=si (λx=>⟨_,rfl⟩) hS htv
 have G8:=Lib.hid ht2
 have hpos:0<p.ab.length:=by have h1:0<=st:=pv.2.1;have Q:st<p.ab.length:=pv.2.2;omega
 obtain⟨cb,co,rfl,hcr,hcb⟩:=hc2 hpos
 have hcall:∀W:World,Below w.heap.size w W->Calls prog 172 #[.slice (some ⟨cb,co,none⟩) p.ab.length A,.int .i64 st] W λe w3=>∃(M3:Pm D) (z:Value),e=.returned z/\VR M3 (.list 17 (kR p.ab st)) z/\Qs [] M W M3 w3:=
  λW hb=>KR Qas (y:=(p.ab,st)) pv (iS hS hb 0).fq hT hcv (.int hin)
 have hcl:p.ab.length<=1000:=pv.1.1
 have hs0:0<=st:=pv.2.1
 have hs9:st<1000:=by have h1:=pv.1.1;have Q:=pv.2.2;simp only at h1 Q;omega
 have hkey:keyOf prog 3 (.int .i64 st)=some (.int .i64 st):=keyOf_int_mk Tryz.underlying3 (WalkArith.wf_i64 ω)
 have G1:=Lib.hid hcv
 have G2:=Lib.hid htv
 have G3:=Lib.hid hS
 have G4:=Lib.hid hT
 have G5:=Lib.hid pv
 have G6:=Lib.hid hcr
 have G7:=Lib.hid hst
 have hgs:ZZ ⟨p,b,l,m⟩=st:=by show p.aj.getD (Int.toNat b) 0=st;rw[Zad,Zag,hst];rfl
 have GS:=Lib.hid hgs
 clear hgs
 clear hcv htv ht2 hS hT pv hc2 hcr P hp hl hsv hst hsr
 go_enter Tryz.func133,Tryz.ntmps133
 go_wp2_with fail
 go_region_with (go_at_call 172;refine(hcall _ (((Below.refl _ _).alloc (Zah _) _).alloc (by simp) _).drew).mono ?_;rintro e f ⟨M1,z,rfl,hz,s⟩)
 all_goals
  have hmm:=@run_makeMap prog
  obtain⟨za,QtI,hzv,hz2⟩:=si (λx=>⟨_,rfl⟩) s.fq hz
  rw[show List.length (α:=D.E 17) (kR p.ab st)=p.ab.length from mg _ _] at hzv
  obtain⟨zb,zo,rfl,hzr,hzb⟩:=hz2 (show 0<(kR p.ab st).length by rw[mg];exact hpos)
  subst hzv
  have T:∀c,c<w.heap.size+2->f.heap[c]?=((w.alloc (Obj.cells #[Value.slice (some ⟨cb,co,none⟩) p.ab.length A,Value.slice (some { block:=sb,off:=so }) p.aj.length X] 72)).alloc (Obj.cells #[Value.bool l.done,Value.int IntKind.i64 l.c0,Value.int IntKind.i64 l.c1,Value.int IntKind.i64 l.c2,Value.int IntKind.i64 l.c3,Value.int IntKind.i64 l.c4,Value.int IntKind.i64 l.c5,Value.int IntKind.i64 l.c6,Value.int IntKind.i64 l.c7,Value.int IntKind.i64 l.c8,Value.int IntKind.i64 l.c9,.slice ta (List.length (α:=D.E 1) l.aB) QiW] 128)).heap[c]?:=λc pv=>s.aN c (by simpa using pv) (by simp)
  have hs1:w.heap.size+2<=f.heap.size:=by have:=s.size;simpa using this
  have P:w.heap.size<f.heap.size:=ω
  have hs3:sb<f.heap.size:=ω
  have k0:f.heap[w.heap.size]?=some (Obj.cells #[Value.slice (some ⟨cb,co,none⟩) p.ab.length A,Value.slice (some { block:=sb,off:=so }) p.aj.length X] 72):=(T _ ω).trans (by rw[Below.heap_alloc _ _ _ (by simp)];exact heap_alloc_new _ _)
  have k1:f.cell? ⟨w.heap.size,1,none⟩=some (.slice (some ⟨sb,so,none⟩) p.aj.length X):=by rw[iy k0];rfl
  have k2:f.cell? ⟨sb,so+b,none⟩=some (.int .i64 st):=(fN ((T sb ω).trans (by grind [Below.heap_alloc]))).trans hcs
  have hk4:∀c,c<w.heap.size->f.heap[c]?=w.heap[c]?:=λc pv=>(T c ω).trans (by grind [Below.heap_alloc])
  have K4:=Lib.hid hk4
  have hfin:∀Z,Below f.heap.size f Z->Qs [] M w M1 Z:=λZ hb=>((Qs.FL (F:=[]) (iS G3.out ((((Below.refl _ _).alloc (Zah _) _).alloc (by simp) _).drew) 0)).trans s λc pv=>nomatch pv).trans (Qs.FL (F:=[]) (iS s.fq hb 0)) λc pv=>nomatch pv
  have KF:=Lib.hid hfin
  have hpl:∀(t:aK) (Z:World),(∀x∈nP t,iY .i64 x=true)->Below f.heap.size f Z->Calls prog 132 #[.agg #[.int .i64 t.c0,.int .i64 t.c1,.int .i64 t.c2,.int .i64 t.c3,.int .i64 t.c4,.int .i64 t.c5,.int .i64 t.c6,.int .i64 t.c7,.int .i64 t.c8,.int .i64 t.c9],.int .i64 m] Z λe w3=>e=.returned (.bool (fp t m))/\Below Z.heap.size Z w3:=λt Z ht hb=>by
   refine(KR Qa4 (y:=(t,m)) trivial (iS s.fq hb 0).fq (λr hb=>(s.pl r).trans (G4.out r hb)) (ε ht) (.int hm)).mono ?_
   ·rintro e w3 ⟨M3,u,rfl,hu,hq⟩
    exact⟨by rw[nB hu],hq.os,hq.tape,hq.output,hq.size,λc pv=>hq.aN c pv (by simp)⟩
  have KP:=Lib.hid hpl
  have K1:=Lib.hid T
  have K2:=Lib.hid hzr
  have K3:=Lib.hid s
  clear T hk4 hfin hpl hz s hz2 hzr
  go_wp2_with (refine Im (H:=Unit) _ rfl _ _ _ 275 rfl 3 3 Nw Tryz.underlying275 (plainElem prog 3) f.heap.size 0 _ rfl (World.ownsMap_made _ _ _ _) (by unfold maxLen;omega) _ _ _ rfl rfl hkey _ [] (plainElem_int Tryz.underlying3 (WalkArith.wf_i64 ω)) ?_;intro w2 hown2 I)
  generalize hB:f.heap.size=B at*
  have KB:=Lib.hid hB
  have Qqn:Below B f w2:=((Below.refl _ _).alloc (Zd1 hB.symm) _).grown I (by simp;omega) λj hj=>by grind
  clear hB I k1 k2
  have Qqo:f.cell? ⟨w.heap.size,0,none⟩=some (.slice (some ⟨cb,co,none⟩) p.ab.length A):=by rw[iy k0];rfl
  clear k0
  go_loopg [32] p.ab.length (λg i wr=>∃(k:Nat) (E:DataW Unit) (a:Nat),k<=p.ab.length/\g=p.ab.length-k/\i=.int .i64 k/\wr.ownsMap prog 3 (plainElem prog 3) B a E/\a<=k+1/\
   Mp E (UX p.ab (kR p.ab st) k λj=>if j=st then true else false)/\Below B f wr)
  case atStart=>exact⟨0,_,1,Zaj _,ω,rfl,hown2,Zah _,Mp.nil.put st true,Qqn⟩
  case round=>
   obtain⟨k,E,a,hk,rfl,rfl,C,hcnt,U,S⟩:=hrel
   have J1:=Lib.hid C
   have J2:=Lib.hid U
   have Y:=Lib.hid S
   clear C U S
   by_cases hlt:k<p.ab.length
   ·have z1:wr.cell? ⟨zb,zo+k,none⟩=some (.bool ((kR p.ab st).getD k false)):=(Y.out.cell (by exact hzb)).trans (QiT K2.out (by rw[mg];exact hlt))
    have z2:wr.cell? ⟨w.heap.size,0,none⟩=some (.slice (some ⟨cb,co,none⟩) p.ab.length A):=(Y.out.cell (by exact P)).trans Qqo
    have z3:wr.cell? ⟨cb,co+k*4,none⟩=some (.int .i64 (p.ab.getD k ⟨0,0,0,[]⟩).op):=(Y.out.cell (show cb<B from Nat.lt_trans hcb P)).trans ((fN (K4.out cb hcb)).trans (QiS G6.out hlt))
    have c1:(0:Int)<=(k:Int):=ω
    have c2:(k:Int)<(p.ab.length:Int):=ω
    cases O:(kR p.ab st).getD k false with
    | false=>
     rw[O] at z1
     have J4:=Lib.hid O
     clear O
     go_wp2_with fail
     go_roundg (p.ab.length-(k+1))
     case measure=>omega
     case rel=>exact⟨k+1,E,a,ω,rfl,by go_num,J1.out,ω,by rw[UX,Zaa (by rw[J4.out];simp)];exact J2.out,Y.out⟩
    | true=>
     rw[O] at z1
     have J4:=Lib.hid O
     clear O
     by_cases L:(p.ab.getD k ⟨0,0,0,[]⟩).op=1
     ·rw[L] at z3
      have J5:=Lib.hid L
      clear L
      have QiX:keyOf prog 3 (.int .i64 ((k:Int)+1))=some (.int .i64 ((k:Int)+1)):=keyOf_int_mk Tryz.underlying3 (WalkArith.wf_i64 ω)
      go_wp2_with (at_mapUpdate;refine wpList_mapUpdate_own (H:=Unit) _ rfl _ _ _ 275 rfl 3 3 Nw Tryz.underlying275 (plainElem prog 3) B a E rfl J1.out (by unfold maxLen;omega) _ _ _ rfl rfl QiX _ [] (plainElem_int Tryz.underlying3 (WalkArith.wf_i64 ω)) ?_;intro w3 hown3 hgrow3)
      go_roundg (p.ab.length-(k+1))
      case measure=>omega
      case rel=>exact⟨k+1,_,a+1,ω,rfl,by go_num,hown3,ω,by rw[UX,Zac ⟨J4.out,J5.out⟩];exact J2.out.put ((k:Int)+1) true,Y.out.grown hgrow3 (Zav (Zd1 KB.out.symm) Y.out.size) (λj hj=>by grind)⟩
     ·generalize hg:(p.ab.getD k ⟨0,0,0,[]⟩).op=q at z3 L
      have J5:=Lib.hid hg
      have q1:(q==1)=false:=by simpa using L
      have q2:decide (q=1)=false:=by assumption
      clear hg
      go_wp2_with fail
      go_roundg (p.ab.length-(k+1))
      case measure=>omega
      case rel=>exact⟨k+1,E,a,ω,rfl,by go_num,J1.out,ω,by rw[UX,Zaa (by rw[J5.out];exact λh=>L h.2)];exact J2.out,Y.out⟩
   ·obtain rfl:k=p.ab.length:=ω
    have k5:wr.cell? ⟨w.heap.size+1,11,none⟩=some (.slice ta (List.length (α:=D.E 1) l.aB) QiW):=(Y.out.cell (show w.heap.size+1<B by omega)).trans (by rw[iy ((K1.out _ ω).trans (r9 (by simp) _))];rfl)
    have c2:¬((p.ab.length:Int)<(p.ab.length:Int)):=ω
    go_wp2_with fail
    clear k5
    go_loopg [54] l.aB.length (λg i wr=>∃(q:Nat) (E:DataW Unit) (a:Nat) (F:Int->Bool),q<=l.aB.length/\g=l.aB.length-q/\i=.int .i64 q/\wr.ownsMap prog 3 (plainElem prog 3) B a E/\a<=1001+q/\
     Mp E F/\Below B f wr/\Wc m (l.aB.drop q) F=uE ⟨p,b,l,m⟩)
    case atStart=>exact⟨0,E,a,_,Zaj _,ω,rfl,J1.out,ω,J2.out,Y.out,by rw[ZbQ,uE,show ZZ ⟨p,b,l,m⟩=st from GS.out]⟩
    case round=>
     obtain⟨q,E2,d,F,hq,rfl,rfl,C,hcnt2,U,S,hwt⟩:=hrel
     have N1:=Lib.hid C
     have N2:=Lib.hid U
     have N3:=Lib.hid S
     have N4:=Lib.hid hwt
     clear C U S hwt
     by_cases J:q<l.aB.length
     ·obtain⟨t,ht⟩:∃t,l.aB[q]?=some t:=⟨_,Zaf J⟩
      obtain⟨tb,tO,rfl,htr,htb⟩:=G8.out (Nat.lt_of_le_of_lt (Zaj _) J)
      obtain⟨e0,e1,e2,e3,e4,e5,e6,e7,e8,e9,e10,f0,f1⟩:=QiV htr ht
      have tw:∀o,(wr.cell? ⟨tb,o,none⟩)=w.cell? ⟨tb,o,none⟩:=λo=>(N3.out.cell (show tb<B from Nat.lt_trans htb P)).trans (fN (K4.out tb htb))
      rw[<-tw] at e0 e1 e2 e3 e4 e5 e6 e7 e8 e9 e10
      have c3:(0:Int)<=(q:Int):=ω
      have c4:(q:Int)<(l.aB.length:Int):=ω
      have hns:B<wr.heap.size:=by obtain⟨es,clock,hb,_⟩:=N1.out;exact(ZbU.1 hb).1
      have P1:=Lib.hid ht
      have wfp:(Lit.int .i64 t.pc).wf=true:=WalkArith.wf_i64 (cE.1 f0)
      have n:keyOf prog 3 (.int .i64 t.pc)=some (.int .i64 t.pc):=keyOf_int_mk Tryz.underlying3 wfp
      have V:∀o,(wr.alloc o).ownsMap prog 3 (plainElem prog 3) B d E2:=λo=>AD N1.out (Below.heap_alloc _ _ _ hns)
      have hbX:∀o,Below B f (wr.alloc o):=λo=>N3.out.alloc (Zcx hns) o
      have QiY:uE ⟨p,b,l,m⟩=(F t.pc&&fp t m&&Wc m (l.aB.drop (q+1)) λk=>if k=t.pc then false else F k):=by
       rw[<-N4.out,Zaq J,Wc]
       have:l.aB[q]=t:=by rw[Zaf J] at ht;exact ZbN ht
       rw[this]
      have P3:=Lib.hid f1
      have P4:=Lib.hid V
      have P5:=Lib.hid hbX
      have P6:=Lib.hid QiY
      clear ht f0 f1 tw htr V hbX QiY
      cases hF:F t.pc with
      | false=>
       have Q1:=Lib.hid hF
       clear hF
       go_wp2_with (at_lookup;refine wpList_lookup_own_int (H:=Unit) _ rfl _ _ 275 rfl 3 3 .i64 Nw Tryz.underlying275 Tryz.underlying3 (Va _) B d E2 rfl (P4.out _) _ _ rfl n ?_;intro c R hwc;obtain rfl:c=0:=by(have Q:=N2.out.2 t.pc;rw[R,Q1.out] at Q;simpa using Q))
       go_ret
       refine⟨M1,?_,KF.out _ (P5.out _)⟩
       rw[P6.out,Q1.out]
       rfl
      | true=>
       have Q1:=Lib.hid hF
       clear hF
       have G:=KP.out t _ P3.out (P5.out (Obj.cells #[.int .i64 t.pc,.int .i64 t.c0,.int .i64 t.c1,.int .i64 t.c2,.int .i64 t.c3,.int .i64 t.c4,.int .i64 t.c5,.int .i64 t.c6,.int .i64 t.c7,.int .i64 t.c8,.int .i64 t.c9] 187))
       cases N:fp t m with
       | false=>
        rw[N] at G
        have Q2:=Lib.hid N
        clear N
        go_wp2_with (first | (at_lookup;refine wpList_lookup_own_int (H:=Unit) _ rfl _ _ 275 rfl 3 3 .i64 Nw Tryz.underlying275 Tryz.underlying3 (Va _) B d E2 rfl (P4.out _) _ _ rfl n ?_;intro c R hwc;obtain rfl:c=1:=by(have Q:=N2.out.2 t.pc;rw[R,Q1.out] at Q;simpa using Q)) | (go_at_call 132;refine G.mono ?_;rintro e w3 ⟨rfl,K⟩))
        go_ret
        refine⟨M1,?_,KF.out _ ((P5.out _).trans (K.mono (by simp;omega)))⟩
        rw[P6.out,Q1.out,Q2.out]
        rfl
       | true=>
        rw[N] at G
        have Q2:=Lib.hid N
        clear N
        go_wp2_with (first | (at_lookup;refine wpList_lookup_own_int (H:=Unit) _ rfl _ _ 275 rfl 3 3 .i64 Nw Tryz.underlying275 Tryz.underlying3 (Va _) B d E2 rfl (P4.out _) _ _ rfl n ?_;intro c R hwc;obtain rfl:c=1:=by(have Q:=N2.out.2 t.pc;rw[R,Q1.out] at Q;simpa using Q)) | (go_at_call 132;refine G.mono ?_;rintro e w3 ⟨rfl,K⟩;have w3c:w3.cell? ⟨wr.heap.size,0,none⟩=some (.int .i64 t.pc):=(K.cell (by simp)).trans (by rw[iy (r9 rfl _)];rfl)) | (at_mapUpdate;refine wpList_mapUpdate_own (H:=Unit) _ rfl _ _ _ 275 rfl 3 3 Nw Tryz.underlying275 (plainElem prog 3) B d E2 rfl (AD (P4.out _) (K.block B (by simp;omega))) (by unfold maxLen;omega) _ _ _ rfl rfl n _ [] (plainElem_int Tryz.underlying3 (WalkArith.wf_i64 ω)) ?_;intro w4 hown4 hgrow4))
        go_roundg (l.aB.length-(q+1))
        case measure=>omega
        case rel=>
         have hb4:Below B f w4:=((P5.out _).trans (K.mono (by simp;omega))).grown hgrow4 (by have:=K.size;simp at this;omega) λj hj=>by cases hj;exact Zah _
         exact⟨q+1,_,d+1,_,ω,rfl,by go_num,hown4,ω,N2.out.put t.pc false,hb4,by rw[P6.out,Q1.out,Q2.out];rfl⟩
     ·obtain rfl:q=l.aB.length:=ω
      have c4:¬((l.aB.length:Int)<(l.aB.length:Int)):=ω
      go_wp2_with fail
      go_ret
      refine⟨?_,M1,KF.out _ N3.out⟩
      have e:uE ⟨p,b,l,m⟩=true:=by rw[<-N4.out,ZbH];rfl
      rw[e]
      rfl
theorem QiZ:Ok QiK:=by
 refine⟨⟨f133,_,by kernel_rfl,cH (by kernel_rfl)⟩,λy t M A w a i j R h=>?_⟩;obtain⟨p,r,l,m⟩:=y;obtain⟨k,h0,h1,g⟩:=t;obtain⟨A⟩:=A;obtain⟨v,A,rfl,a0,a⟩:=LR.bD a;obtain⟨x,A,rfl,f,a⟩:=a.bD;obtain⟨z,A,rfl,a2,a⟩:=a.bD;obtain⟨v3,A,rfl,a3,a⟩:=a.bD;obtain rfl:=a.kW;obtain rfl:=fk f;obtain⟨rfl,q⟩:=ec a3;obtain⟨n,rfl⟩:=Zau h0;have b:n<p.aj.length:=Zd0.1 h1;have c:p.aj[n]?=some (ZZ ⟨p,n,l,m⟩):=by
  show _=some (p.aj.getD (Int.toNat n) 0)
  grind
 exact(ζ b c k g i j q a0 a2).mono λe u ⟨d,o,s⟩=>by rw[o];exact h d _ u (.bool _) s.Qa6
end sx
set_option maxRecDepth 100000
set_option maxHeartbeats 4000000
namespace sx
noncomputable section
open Go Go.RowKit cls syn
structure n9 where
 p:eu
 m:Int
 L:List dh
def Ny (l:dh):aK:=⟨0,l.c0,l.c1,l.c2,l.c3,l.c4,l.c5,l.c6,l.c7,l.c8,l.c9⟩
def wlN (l:dh):Bool:=(nP (Ny l)).all λx=>decide (x= -1)
def tY (y:n9) (i:Nat):Bool:=!(!(y.L.getD i fA).done&&!wlN (y.L.getD i fA))&&fp (Ny (y.L.getD i fA)) y.m&&uE ⟨y.p,i,y.L.getD i fA,y.m⟩
def fI (y:n9):Nat->Bool
 | 0=>true
 | k+1=>fI y k&&tY y k
def gx (y:n9):Bool:=lk (decide (0<=y.m)&&decide (y.m<=1099511627776)&&decide (y.L.length=y.p.aj.length)&&fI y y.L.length)
def sj (y:n9):Prop:=Ck y.p/\y.L.length<=1000/\∀l∈y.L,l.aB.length<=1000000
def mcA (y:n9):AV D.E:=.agg [.int .i64 y.m,.list 2 y.L]
def QdK (v:AV D.E) (s:St D.E):C (Int×List dh):=az (asAgg v) λcs=>match cs with
 | [m,l]=>aL (cA m) λ_ m=>az (aU D s 2 l) λl=>.ret (m,(l:List dh))
 | _=>.fail
def Qqp (a:List (AV D.E)) (s:St D.E):C n9:=match a with
 | [p,m]=>az (sS p s) λp=>aL (QdK m s) λm l=>.ret ⟨p,m,l⟩
 | _=>.fail
def Nz:br D:=bL 95 n9 Qqp sj (λy=>[yc y.p,mcA y]) λy=>.bool (gx y)
def Qqq (y:Nz.Y):cO D:=⟨[],[],[(58,⟨Nat,[30,31],λk=>[(2,.ptr 0 0),(3,.ptr 1 0),(32,QsE k)],[],λ_=>[Od (n9.p y),(1,.cells [QsE (n9.m y),.list 2 (n9.L y)] 35 false)],2,λk=>k<=(n9.L y).length/\fI y k,λk=>(n9.L y).length-k⟩)],[],1,[]⟩
def Vb (y:n9):Prop:=let d:=ag y.L;let q1:=y.L.length;let k:=ay 1099511627776 y.m;let l:=!(aC d (ag y.p.aj));let e:=λp:Prop=>RAM y.L d p;let f:=λp:Prop=>RAM y.m y.L (RA2 y.p p);let n:Prop:=(RAL y.m (false=gx y/\True));Iv (Ck y.p)/\RA2 y.p (ak (ay y.m 0) (false=gx y/\True) (ak k (false=gx y/\True) (ak l (false=gx y/\True) ((∃z:Nat,e (0=(z:Int)/\f ((Iv (z<=q1/\fI y z)))))/\(∀x:Nat,let a:=gt (dh.mk false 0 0 0 0 0 0 0 0 0 0 []) y.L (x:Int).toNat;let c:=B5.mk y.p (x:Int) a y.m;let h:=!(fp (aK.mk 0 a.c0 a.c1 a.c2 a.c3 a.c4 a.c5 a.c6 a.c7 a.c8 a.c9) y.m);let g:=!((aC a.c0 (-1))&&((aC a.c1 (-1))&&((aC a.c2 (-1))&&((aC a.c3 (-1))&&((aC a.c4 (-1))&&((aC a.c5 (-1))&&((aC a.c6 (-1))&&((aC a.c7 (-1))&&((aC a.c8 (-1))&&(aC a.c9 (-1)))))))))));let b:=λp:Prop=>aa [a.c0,a.c1,a.c2,a.c3,a.c4,a.c5,a.c6,a.c7,a.c8,a.c9,y.m] p;let i:Prop:=(b (false=gx y/\True));let j:Prop:=(aa [a.c0,a.c1,a.c2,a.c3,a.c4,a.c5,a.c6,a.c7,a.c8,a.c9,y.m] (aa [y.p.ab] (aa [y.p.aj] (aa [a.done] (aa [a.c0,a.c1,a.c2,a.c3,a.c4,a.c5,a.c6,a.c7,a.c8,a.c9] (aa [a.aB] (aa [y.m] (ak (!(uE c)) (false=gx y/\True) (∃z:Nat,e (aw .i64 (x:Int) 1=(z:Int)/\f ((Iv ((z<=q1/\fI y z)/\(q1-z)<(q1-x))))))))))))));(Iv (x<=q1/\fI y x))->ak (ay (x:Int) d) (aH 0 (x:Int)/\ay (x:Int) d/\ak (!a.done) (Iv True/\ak g (aa [a.done] (aa [a.c0,a.c1,a.c2,a.c3,a.c4,a.c5,a.c6,a.c7,a.c8,a.c9,a.c0,a.c1,a.c2,a.c3,a.c4,a.c5,a.c6,a.c7,a.c8,a.c9] (false=gx y/\True))) (Iv True/\b (ak h (aa [a.done] (aa [a.c0,a.c1,a.c2,a.c3,a.c4,a.c5,a.c6,a.c7,a.c8,a.c9,a.c0,a.c1,a.c2,a.c3,a.c4,a.c5,a.c6,a.c7,a.c8,a.c9,a.c0,a.c1,a.c2,a.c3,a.c4,a.c5,a.c6,a.c7,a.c8,a.c9,y.m] (false=gx y/\True))) (Iv (wtP c)/\aa [y.p.ab] (aa [y.p.aj] (aa [(x:Int)] (aa [a.done] (aa [a.c0,a.c1,a.c2,a.c3,a.c4,a.c5,a.c6,a.c7,a.c8,a.c9] (aa [a.aB] (aa [y.m] (aa [a.done] (aa [a.c0,a.c1,a.c2,a.c3,a.c4,a.c5,a.c6,a.c7,a.c8,a.c9,a.c0,a.c1,a.c2,a.c3,a.c4,a.c5,a.c6,a.c7,a.c8,a.c9,a.c0,a.c1,a.c2,a.c3,a.c4,a.c5,a.c6,a.c7,a.c8,a.c9,y.m] (aa [y.p.ab] (aa [y.p.aj] (aa [a.done] (aa [a.c0,a.c1,a.c2,a.c3,a.c4,a.c5,a.c6,a.c7,a.c8,a.c9] (aa [a.aB] (aa [y.m] (ak (!(uE c)) (false=gx y/\True) (∃z:Nat,e (aw .i64 (x:Int) 1=(z:Int)/\f ((Iv ((z<=q1/\fI y z)/\(q1-z)<(q1-x))))))))))))))))))))))))) (Iv True/\b (ak h (aa [a.done] (aa [a.c0,a.c1,a.c2,a.c3,a.c4,a.c5,a.c6,a.c7,a.c8,a.c9,y.m] (false=gx y/\True))) (Iv (wtP c)/\aa [y.p.ab] (aa [y.p.aj] (aa [(x:Int)] (aa [a.done] (aa [a.c0,a.c1,a.c2,a.c3,a.c4,a.c5,a.c6,a.c7,a.c8,a.c9] (aa [a.aB] (aa [y.m] (aa [a.done] (aa [a.c0,a.c1,a.c2,a.c3,a.c4,a.c5,a.c6,a.c7,a.c8,a.c9,y.m] (aa [y.p.ab] (aa [y.p.aj] (aa [a.done] (aa [a.c0,a.c1,a.c2,a.c3,a.c4,a.c5,a.c6,a.c7,a.c8,a.c9] (aa [a.aB] (aa [y.m] (ak (!(uE c)) (false=gx y/\True) (∃z:Nat,e (aw .i64 (x:Int) 1=(z:Int)/\f ((Iv ((z<=q1/\fI y z)/\(q1-z)<(q1-x))))))))))))))))))))))))) (true=gx y/\True))))))
theorem EN {y:n9}:∀{n k:Nat},k<=n->fI y n->fI y k
 | 0,k,h,e=>by
  obtain rfl:k=0:=ω;exact e
 | n+1,k,h,e=>by
  rw[fI,ZaW] at e;by_cases hk:k=n+1
  ·grind [fI]
  ·exact EN ω e.1
theorem jV (y:n9):gx y=(decide (0<=y.m)&&decide (y.m<=1099511627776)&&decide (y.L.length=y.p.aj.length)&&fI y y.L.length):=aI _
theorem Io {y:n9} {x:Nat} (a:x<y.L.length) (h:tY y x=false):false=gx y:=by
 rw[jV];cases e:fI y y.L.length with
 | false=>simp
 | true=>
  have:=EN (show x+1<=y.L.length by omega) e;grind [fI]
def Vc (l:dh):wlN l=decide (l.c0= -1/\l.c1= -1/\l.c2= -1/\l.c3= -1/\l.c4= -1/\l.c5= -1/\l.c6= -1/\l.c7= -1/\l.c8= -1/\l.c9= -1):=by simp[wlN,Ny,nP]
theorem Qqs (y:n9) (j:sj y):Vb y:=by
 unfold Vb;have⟨h,q,i⟩:=j;have⟨s,u,v,w,k,l⟩:=h;simp only[bI,bH,av,cS,Zad,Zan,Zao];refine⟨h,λk1=>?_,λk1=>⟨λk2=>?_,λk2=>⟨λk3=>?_,λk3=>⟨⟨0,rfl,Zaj _,rfl⟩,λx r=>⟨λk4=>?_,λk4=>?_⟩⟩⟩⟩⟩
 ·grind [jV]
 ·grind [jV]
 ·grind [jV]
 ·have b:x<y.L.length:=ω;have d:x<y.p.aj.length:=ω;have ht:y.L.getD x fA∈y.L:=by grind
  have hw:wtP ⟨y.p,↑x,y.L.getD x fA,y.m⟩:=by
   have⟨n,o,_⟩:=l x d;exact⟨⟨k,n,o⟩,ZaF _,Zd0.2 d,i _ ht⟩
  have hi:aw .i64 ↑x 1=((x+1:Nat):Int):=ba ω ω;have g:tY y x->fI y (x+1):=λe=>by grind [fI]
  have f:(⟨false,0,0,0,0,0,0,0,0,0,0,[]⟩:dh)=fA:=rfl;have c:∀e:tY y x,∃z:Nat,aw .i64 ↑x 1=↑z/\(z<=y.L.length/\fI y z)/\y.L.length-z<y.L.length-x:=λe=>⟨x+1,hi,⟨b,g e⟩,ω⟩
  have a:=Io b;simp only[f];have hu:tY y x=(!(!(y.L.getD x fA).done&&!wlN (y.L.getD x fA))&&fp (Ny (y.L.getD x fA)) y.m&&uE ⟨y.p,x,y.L.getD x fA,y.m⟩):=rfl;rw[Vc] at hu;unfold Ny at hu;generalize uE ⟨y.p,x,y.L.getD x fA,y.m⟩=W at*
  generalize fp ⟨0,(y.L.getD x fA).c0,(y.L.getD x fA).c1,(y.L.getD x fA).c2,(y.L.getD x fA).c3,(y.L.getD x fA).c4,(y.L.getD x fA).c5,(y.L.getD x fA).c6,(y.L.getD x fA).c7,(y.L.getD x fA).c8,(y.L.getD x fA).c9⟩ y.m=PP at*
  generalize y.L.getD x fA=t at*
  refine⟨ω,ω,λk5=>⟨λk6=>a ?_,λk6=>⟨λk7=>a ?_,λk7=>⟨hw,λk8=>a ?_,λk8=>c ?_⟩⟩⟩,λk5=>⟨λk7=>a ?_,λk7=>⟨hw,λk8=>a ?_,λk8=>c ?_⟩⟩⟩
  all_goals rw[hu]
  all_goals simp_all [aC]
 ·grind [jV]
def Qi1 (a:Ok dr):Ok Nz:=okZ [Mb,L5,UW,QiK] f95 Qqq ⟨QfU a,Qal,Qa4,QiZ⟩ Qqs
def θ (x:aS) (i:Int):List Int:=if x.op=2 then[x.x,x.y] else if x.op=3 then[x.x] else if x.op=7 then[] else[i+1]
def yH (ab:List aS) (i:Int):List Int:=θ (ab.getD i.toNat cX) i
def Vd (a:List (AV D.E)) (s:St D.E):C (eu×Int):=match a with
 | [p,i]=>az (sS p s) λp=>aL (cA i) λ_ i=>.ret (p,i)
 | _=>.fail
def Qi2 (y:eu×Int):Prop:=0<=y.2/\y.2<y.1.ab.length/\y.1.ab.length<=1000
def ι:br D:=bL 174 (eu×Int) Vd Qi2 (λy=>[yc y.1,QsE y.2]) λy=>.list 5 (yH y.1.ab y.2)
def uF (y:eu×Int):Int:=y.1.aj.getD y.2.toNat 0
def κ (y:eu×Int):Prop:=Ma (y.1.ab,uF y)/\0<=y.2/\y.2<y.1.aj.length
def NA:br D:=bL 136 (eu×Int) Vd κ (λy=>[yc y.1,QsE y.2]) λy=>.list 17 (kR y.1.ab (uF y))
def Qqu (y:NA.Y):cO D:=⟨[],[3,4],[(124,⟨rL,[],λx=>[(2,.ptr 0 0),(5,.own 1 1 (ag x.s)),(6,.own 2 1 (ag x.l))],[],λx=>[Od (Prod.fst (α:=eu) y),(1,.arr 17 x.s 4 false),(2,.arr 5 x.l 3 false)],3,pQ ((Prod.fst (α:=eu) y).ab,uF y),λx=>x.f⟩)],[],1,[]⟩
def QdL (y:eu×Int):Prop:=Xi y/\Gu y.1 y.2
def μ:br D:=bL 173 (eu×Int) Vd QdL (λy=>[yc y.1,QsE y.2]) λ_=>.lit true
def Ve:br D:={ Mb with f:=134 }
def Qqx (y:Ve.Y):cO D:=⟨[],[],[(58,⟨Nat,[],λk=>[(1,.ptr 0 0),(3,QsE k)],[],λ_=>[Od y],1,λk=>k<=(eu.ab y).length,λk=>(eu.ab y).length-k⟩),
 (122,⟨Nat,[],λk=>[(1,.ptr 0 0),(4,QsE k)],[],λ_=>[Od y],1,λk=>k<=(eu.aj y).length,λk=>(eu.aj y).length-k⟩),
 (250,⟨Nat,[],λk=>[(1,.ptr 0 0),(5,QsE k)],[],λ_=>[Od y],1,λk=>k<=(eu.aj y).length,λk=>(eu.aj y).length-k⟩)],[],1,
 [(32038,⟨Nat,λr=>⟨Nat,[5,6],λk=>[(1,.ptr 0 0),(7,QsE k)],[],λ_=>[Od y],1,λk=>k<=(eu.ab y).length/\r<(eu.aj y).length,λk=>(eu.ab y).length-k⟩,none⟩)]⟩
def Vf:br D:={ L5 with f:=54 }
def Qi3:br D:={ UW with f:=135 }
def Qa7 (y:eu×Int):Prop:=let a:=yH y.1.ab y.2;let q1:=gt (aS.mk 0 0 0 []) y.1.ab y.2.toNat;aH 0 y.2/\ay y.2 (ag y.1.ab)/\ak (aC q1.op 2) (([q1.x,q1.y]:List Int)=a/\True) (ak (aC q1.op 3) (([q1.x]:List Int)=a/\True) (ak (aC q1.op 7) ([]=a/\True) (([aw .i64 y.2 1]:List Int)=a/\True)))
def Qa8 (y:eu×Int):Prop:=let d:=ag y.1.ab;let q1:=kR y.1.ab (uF y);let e:=kO d false;let m:=aH (ag y.1.aj) y.2;let k:=([gt 0 y.1.aj y.2.toNat]:List Int);let j:=λp:Prop=>RA2 y.1 p;aH 0 d/\aH d d/\bx d 1/\ak (ay y.2 0) (e=q1/\True) (ak m (e=q1/\True) (aH 0 y.2/\ay y.2 (ag y.1.aj)/\(∃z:rL,ag e=ag z.s/\ag k=ag z.l/\k=z.l/\e=z.s/\j ((Iv (pQ (y.1.ab,uF y) z))))/\(∀x:rL,let g:=ag x.l;let b:=cF .i64 g 1;let i:=(y.1.ab,uF y);let a:=gt 0 x.l b.toNat;let h:=gt false x.s a.toNat;let c:=bC (dj x.l b) (yH y.1.ab a);(Iv (pQ i x))->ak (ay 0 g) (aH 0 b/\ay b g/\aH 0 b/\aH b g/\aH 0 a/\ay a (ag x.s)/\ak h (∃z:rL,ag x.s=ag z.s/\b=ag z.l/\dj x.l b=z.l/\x.s=z.s/\j ((Iv (pQ i z/\z.f<x.f)))) (aH 0 a/\ay a (ag x.s)/\Iv (Qi2 (y.1,a))/\RA2 y.1 (RAL a (bx (ag c) 8/\∃z:rL,ag x.s=ag z.s/\ag c=ag z.l/\c=z.l/\cC x.s a.toNat true=z.s/\j ((Iv (pQ i z/\z.f<x.f))))))) (x.s=q1/\True))))
def Qa9 (y:eu×Int):Prop:=let a:=ag y.1.ab;let q1:=gt (aS.mk 0 0 0 []) y.1.ab y.2.toNat;let c:=ag q1.bg;let i:=aH (ag y.1.aj) q1.x;let j:=!(decide (q1.bg=aV q1.bg));let d:Prop:=(ay (aw .i64 y.2 1) a/\True);let e:Prop:=(ak (aC c 0) (True) (False));let f:Prop:=(ak (aC q1.y 0) (ak (aC c 0) (d) (False)) (False));let g:Prop:=(ak (aC q1.x 0) (f) (False));let h:Prop:=(ak (aC q1.x q1.x) (ak (aC q1.y 0) (e) (False)) (False));let b:Prop:=(ak (aC q1.op 7) (ak (ay q1.x 0) (False) (ak i (False) (h))) (False));aH 0 y.2/\ay y.2 a/\ak (aC q1.op 1) (Iv (q1.bg.length<=2000000)/\RAL q1.bg (ak j (False) (ak (aC q1.x 0) (ak (aC q1.y 0) (ak (aC c c) (d) (False)) (False)) (False)))) (ak (aC q1.op 2) (RAO q1.x q1.y q1.y (ak (ay q1.x 0) (False) (ak (aH a q1.x) (False) (ak (ay q1.y 0) (False) (ak (aH a q1.y) (False) (ak (aC q1.x q1.x) (ak (aC q1.y q1.y) (e) (False)) (False))))))) (ak (aC q1.op 3) (ak (ay q1.x 0) (False) (ak (aH a q1.x) (False) (h))) (ak (aC q1.op 4) (ak (ay q1.x 0) (False) (ak (aH 10 q1.x) (False) (ak (aC q1.x q1.x) (f) (False)))) (ak (aC q1.op 5) (ak (aC q1.op 5) (g) (b)) (ak (aC q1.op 6) (g) (b))))))
def Qba (y:eu):Prop:=let b:=y.ab.length;let q1:=ag y.aj;let a:=y.aj.length;let m:=ag y.ab;let h:=λp:Prop=>RA2 y p;let s:Prop:=(∃z:Nat,0=(z:Int)/\h ((Iv (z<=a))));ak (ay 400 m) (False) (ak (ay 8 q1) (False) ((∃z:Nat,0=(z:Int)/\h ((Iv (z<=b))))/\(∀x:Nat,(Iv (x<=b))->ak (ay (x:Int) m) (Iv (QdL (y,(x:Int)))/\RA2 y (RAL (x:Int) (∃z:Nat,aw .i64 (x:Int) 1=(z:Int)/\h ((Iv (z<=b/\(b-z)<(b-x))))))) ((s)/\(∀i:Nat,let q:=ay (i:Int) q1;let k:=gt 0 y.aj (i:Int).toNat;(Iv (i<=a))->ak q (aH 0 (i:Int)/\q/\ak (ay k 0) (RAM y.aj k (False)) (aH 0 (i:Int)/\q/\RAQ y.aj k y.aj k y.ab (ak (aH m k) (False) (∃z:Nat,aw .i64 (i:Int) 1=(z:Int)/\h ((Iv (z<=a/\(a-z)<(a-i)))))))) ((s)/\(∀e:Nat,let t:=ay (e:Int) q1;let r:=kR y.ab (uF (y,(e:Int)));let l:=λp:Prop=>RAM (e:Int) r p;(Iv (e<=a))->ak t (Iv (κ (y,(e:Int)))/\RA2 y (RAL (e:Int) (∃z:Nat,(∃d:Nat,l (0=(d:Int)/\h ((Iv (d<=b/\z<a)))))/\(∀c:Nat,let f:=ay (c:Int) m;let n:=gt false r (c:Int).toNat;let j:=gt (aS.mk 0 0 0 []) y.ab (c:Int).toNat;let o:=!(aC j.x (e:Int));let g:Prop:=(∃d:Nat,l (aw .i64 (c:Int) 1=(d:Int)/\h ((Iv ((d<=b/\z<a)/\(b-d)<(b-c))))));(Iv (c<=b/\z<a))->ak f (aH 0 (c:Int)/\ay (c:Int) (ag r)/\ak n (aH 0 (c:Int)/\f/\ak (aC j.op 7) (aH 0 (c:Int)/\f/\ak o (False) (g)) (g)) (g)) (∃d:Nat,aw .i64 (e:Int) 1=(d:Int)/\h ((Iv (d<=a/\(a-d)<(a-e))))))))) (True))))))))
theorem Qi4:Ok ι:=okZ (V:=Qa7) [] f174 (λ_=>ew ()) trivial λy a=>by
 have⟨h1,b,c⟩:=a;grind [Qa7,yH,θ]
theorem KS {ab:List aS} {i:Int} (a:Xm ab) (h0:0<=i) (h1:i<ab.length):(yH ab i).length<=2/\∀j∈yH ab i,0<=j/\j<(ab.length:Int):=by
 obtain⟨n,rfl⟩:=Zau h0;have⟨b,c,d⟩:=a.2 n ω;grind [yH,θ]
theorem NB {y:List aS×Int} {f:Nat} {s:List Bool} {l:List Int} {m:Nat} (c:Xm y.1) (g:pQ y ⟨f+1,s,l⟩) (e:l.length=m+1):(0<=l.getD m 0/\l.getD m 0<y.1.length)/\(s.getD (l.getD m 0).toNat false->pQ y ⟨f,s,l.take m⟩)/\(s.getD (l.getD m 0).toNat false=false->pQ y ⟨f,s.set (l.getD m 0).toNat true,l.take m++yH y.1 (l.getD m 0)⟩):=by
 have⟨b,e2,n,o,a⟩:=g;have hi:=e2 (l.getD m 0) (by grind);have hk:∀i∈l.take m,0<=i/\i<↑y.1.length:=λi hi=>e2 i (Zcg hi)
 rw[kq,e,Zde] at a;have⟨q1,k⟩:=KS c hi.1 hi.2;refine⟨hi,λh=>?_,λh=>?_⟩
 ·rw[Zac h] at a;exact⟨b,hk,by grind,by grind,a⟩
 ·rw[Zaa (by grind)] at a;refine⟨List.length_set.trans b,λj d=>(Zax.1 d).elim (hk j) (k j),?_,by grind,?_⟩
  ·grind
  ·grind [yH,θ]
theorem Qbb:Ok NA:=okZ (V:=Qa8) [ι] f136 Qqu Qi4 λy u=>by
 obtain⟨⟨c1,B,C⟩,v,w⟩:κ y:=u;have c0:y.1.ab.length<=1000:=c1.1;unfold Qa8;simp only[bI,bH,av,cC,bm,a7];refine⟨ω,ω,ω,λh=>ω,λ_=>⟨λh=>ω,λ_=>⟨v,w,⟨⟨3*y.1.ab.length+1,JF y.1.ab.length,[uF y]⟩,rfl,rfl,rfl,rfl,by grind [JF],λi hi=>?_,?_,Zah _,rfl⟩,λx c=>⟨λh=>?_,λh=>?_⟩⟩⟩⟩
 ·grind
 ·unfold JF;simp
 ·have⟨f,s,l⟩:=x;simp only at c h ⊢;have⟨o,e2,p,q,d⟩:=c;simp only at o e2 p q d;obtain⟨m,r⟩:∃m,l.length=m+1:=⟨l.length-1,ω⟩;obtain⟨f,rfl⟩:∃g,f=g+1:=⟨f-1,ω⟩;have t:cF .i64 ↑l.length 1=↑m:=by
   grind
  have⟨q1,j,n⟩:=NB c1 c r;have e:dj l ↑m=l.take m:=rfl;have a:(l.take m).length=m:=by grind
  rw[t,Zad,cS,e];have⟨z,A⟩:=KS c1 q1.1 q1.2;replace q1:0<=l.getD m 0/\l.getD m 0<↑y.1.ab.length:=q1;generalize l.getD m 0=i at q1 j n z A ⊢;generalize l.take m=k at j n a ⊢;refine⟨ω,ω,ω,ω,q1.1,ω,λb=>⟨⟨f,s,k⟩,rfl,by rw[a],rfl,rfl,j b,Zbr _⟩,λb=>⟨q1.1,ω,⟨q1.1,q1.2,c0⟩,?_,⟨f,s.set i.toNat true,k++yH y.1.ab i⟩,by grind,rfl,rfl,rfl,n b,Zbr _⟩⟩;grind
 ·have⟨f,s,l⟩:=x;have⟨o,e2,p,q,d⟩:=c;rw[<-d];cases f with
  | zero=>rfl
  | succ f=>rw[kq,Zac ω]
theorem Qi5 (f:Ok gG):Ok μ:=okZ (V:=Qa9) [wT] f173 (λ_=>ew ()) (Q5 f) λy g=>by
 obtain⟨⟨h1,d,h,e⟩,b⟩:QdL y:=g;have hi:aw .i64 y.2 1=y.2+1:=ba ω ω;have i:(gt (aS.mk 0 0 0 []) y.1.ab y.2.toNat).bg.length<=1000000:=by
  grind
 have c:Gu y.1 y.2=DD (gt (aS.mk 0 0 0 []) y.1.ab y.2.toNat) (ay (y.2+1) (ag y.1.ab)) (ag y.1.ab) (ag y.1.aj):=rfl;have a:=gk.2 d;rw[c] at b;unfold Qa9;rw[hi];unfold DD gQ at b;clear e c a
 with_reducible repeat' first | apply And.intro | intro _
 all_goals grind
theorem Qi6 (e:Ok gG):Ok Ve:=okZ (V:=Qba) [μ,NA] f134 Qqx ⟨Qi5 e,Qbb⟩ λ(y:eu) i=>by
 obtain⟨p1,p2,p3,p4,p5,p6⟩:Ck y:=i;unfold Qba;simp only[bI,bH,av,Zad,cS,Zan,Zao];have up:∀{n x:Nat},x<n->n<=1000->∃z:Nat,aw .i64 ↑x 1=↑z/\z<=n/\n-z<n-x:=λh l=>⟨_+1,ba ω ω,ω,ω⟩
 refine⟨λh=>ω,λh=>⟨λh=>ω,λh=>⟨⟨0,rfl,Zaj _⟩,λx g=>⟨λk=>?_,λk=>⟨⟨0,rfl,Zaj _⟩,λr f=>⟨λk=>?_,λk=>⟨⟨0,rfl,Zaj _⟩,λr f=>⟨λk=>?_,λk=>trivial⟩⟩⟩⟩⟩⟩⟩⟩
 ·have b:x<y.ab.length:=ω;exact⟨⟨⟨ω,k,by grind,p4⟩,p3 x b⟩,up b ω⟩
 ·have a:r<y.aj.length:=ω;have⟨d,a2,a3⟩:=p6 r a;exact⟨ω,k,λh=>ω,λ_=>⟨ω,k,λh=>ω,λ_=>up a ω⟩⟩
 ·have a:r<y.aj.length:=ω;have⟨d,a2,a3⟩:=p6 r a;have m:uF (y,↑r)=y.aj.getD r 0:=rfl;refine⟨⟨⟨p5,d,a2⟩,ω,k⟩,r,⟨0,rfl,Zaj _,a⟩,λx g=>⟨λk2=>?_,λ_=>up a ω⟩⟩;have b:x<y.ab.length:=ω;have⟨z,j,z2,z3⟩:=up b ω;have c:∃z:Nat,aw .i64 ↑x 1=↑z/\(z<=y.ab.length/\r<y.aj.length)/\y.ab.length-z<y.ab.length-x:=⟨z,j,⟨z2,a⟩,z3⟩;exact⟨ω,by rw[mg];exact k2,λs=>⟨ω,k2,λo=>⟨ω,k2,λh=>h (a3 x b s o),λ_=>c⟩,λ_=>c⟩,λ_=>c⟩
theorem KT:Ok Vf:=okZ (V:=Jz) [] f54 (λ_=>⟨[],[],[],[],11,[]⟩) trivial λy a=>by
 grind [Jz]
def Qi7:Ok Qi3:=okZ (V:=KE) [] f135 (λ_=>⟨[],[],[],[],11,[]⟩) trivial λy _=>QiL y
structure B8 where
 v:n9
 h:By
def swA (y:B8):AV D.E:=.agg [.list 0 y.h,.int .i64 y.v.m,.list 2 y.v.L]
def Qi8 (p v:AV D.E) (s:St D.E):C B8:=az (sS p s) λp=>az (asAgg v) λcs=>match cs with
 | [h,m,l]=>az (aU D s 0 h) λh=>aL (cA m) λ_ m=>az (aU D s 2 l) λl=>.ret ⟨⟨p,m,(l:List dh)⟩,(h:By)⟩
 | _=>.fail
def Qqz (a:List (AV D.E)) (s:St D.E):C B8:=match a with
 | [p,v]=>Qi8 p v s
 | _=>.fail
def B9 (h:By):Bool:=decide (h=[])||gF h
def uxC:br D:=⟨94,By×Bool,λa s=>az (L4 a s) λh=>.split (B9 h) (.ret (h,true)) (.ret (h,false)),λy=>y.2=B9 y.1,λy=>[.list 0 y.1],λ_=>[],λy=>match y.2 with
 | true=>.tuple [.ptr 0 0,.num .i64 0]
 | false=>.tuple [.gy,.num .i64 4],λy=>match y.2 with
 | true=>dcO (uoF y.1)
 | false=>[],0,1⟩
def EO (y:B8):Prop:=sj y.v
def Wd (y:B8):Bool:=gx y.v&&B9 y.h
def Vg:br D:=bL 52 B8 Qqz EO (λy=>[yc y.v.p,swA y]) λy=>.bool (Wd y)
def mG (y:B8×Int):Bool:=Wd y.1&&aC (aw .i64 y.1.v.m (ag y.1.h)) y.2
def Vh:br D:=bL 26 (B8×Int) (λa s=>match a with
 | [p,v,n]=>az (Qi8 p v s) λy=>aL (cA n) λ_ n=>.ret (y,n)
 | _=>.fail) (λy=>EO y.1) (λy=>[yc y.1.v.p,swA y.1,QsE y.2]) λy=>.bool (mG y)
def Vi (y:List UInt8):Prop:=let a:Prop:=(Iv True/\cn (ay 0 (dL y)) (sat y 0) 0=lh y 0/\cn (ay 1 (dL y)) (sat y 1) 0=lh y 1/\cn (ay 2 (dL y)) (sat y 2) 0=lh y 2/\cn (ay 3 (dL y)) (sat y 3) 0=lh y 3/\fK 4 (dL y)=ite (y.length<=4) (y.length:Int) 4/\True);Iv True/\RAL y (ak (!(gF y)) (ak (ay 0 (ag y)) (False) (a)) (a))
def Vj (y:List UInt8):Prop:=Iv True/\aa [y] (ak (!(gF y)) (ak (ay 0 (ag y)) (True) (Iv True/\False)) (Iv True/\False))
def Qbc (y:B8):Prop:=let a:=B9 y.h;ak a (Iv (true=a)/\RAL y.h (Iv (sj y.v)/\aa [y.v.p.ab] (aa [y.v.p.aj] (aa [y.v.m] (aa [y.v.L] (gx y.v=Wd y/\True)))))) (Iv (false=a)/\RAL y.h (false=Wd y/\True))
def KU (y:B8×Int):Prop:=Iv (EO y.1)/\RA2 y.1.v.p (RAO y.1.h y.1.v.m y.1.v.L (ak (Wd y.1) (aC (aw .i64 y.1.v.m (ag y.1.h)) y.2=mG y/\True) (false=mG y/\True)))
theorem QqE (y:By) (a:true=B9 y):Vi y:=by
 have h:=uoH y (by grind [B9]);grind [QcL,Vi]
theorem QqF (y:By) (a:false=B9 y):Vj y:=by
 grind [Vj,List.length_pos_iff,B9]
def QqG:Ok uxC:=QsR (k:=uxC) (T:=Vi) (F:=Vj) [oK,unC] f94 (λ_=>ew ()) id id (λ_=>rfl) ⟨Bo,Ql6⟩ QqE QqF
theorem Qja (b:Ok dr):Ok Vg:=okZ (V:=Qbc) [uxC,Nz] f52 (λ_=>ew ()) ⟨QqG,Qi1 b⟩ λy a=>by
 have a:sj y.v:=a;grind [Qbc,Wd]
theorem Qjb (y:B8×Int) (a:EO y.1):KU y:=by
 grind [KU,mG]
def Qjc (a:Ok dr):Ok Vh:=okZ [Vg] f26 (λ_=>ew ()) (Qja a) Qjb
structure vu where
 h:By
 m:Int
 L:List dh
def KV (y:vu):List (AV D.E):=[.list 0 y.h,.int .i64 y.m,.list 2 y.L]
def xZ (h m l:AV D.E) (s:St D.E):C vu:=az (aU D s 0 h) λh=>aL (cA m) λ_ m=>az (aU D s 2 l) λl=>.ret ⟨(h:By),m,(l:List dh)⟩
def kM (y:vu):Bool:=aC (ag y.h) 0&&aC y.m 0&&aC (ag y.L) 0
def Vk:br D:=bL 28 vu (λa s=>match a with
 | [v]=>az (asAgg v) λcs=>match cs with
  | [h,m,l]=>xZ h m l s
  | _=>.fail
 | _=>.fail) (λ_=>True) (λy=>[.agg (KV y)]) λy=>.bool (kM y)
structure NC where
 l:List dh
 n:Int
 z:Int
def edC (d:Bool) (z:Int) (t:aK):Bool:=(nP t).all λx=>decide (-1<=x)&&decide (x<=z)&&(d||decide (x= -1))
def ND (y:NC) (i:Nat):Bool:=decide ((y.l.getD i fA).aB.length=0)&&edC (y.l.getD i fA).done y.z (Ny (y.l.getD i fA))
def lK (y:NC):Nat->Bool
 | 0=>true
 | k+1=>lK y k&&ND y k
def fY (y:NC):Bool:=lk (decide ((y.l.length:Int)=y.n)&&lK y y.l.length)
def NF:br D:=bL 29 NC (λa s=>match a with
 | [l,n,z]=>az (aU D s 2 l) λl=>aL (cA n) λ_ n=>aL (cA z) λ_ z=>.ret ⟨(l:List dh),n,z⟩
 | _=>.fail) (λy=>y.l.length<=1000) (λy=>[.list 2 y.l,QsE y.n,QsE y.z]) λy=>.bool (fY y)
def QqI (y:NF.Y):cO D:=⟨[],[],[(58,⟨Nat,[2,15,16],λk=>[(17,QsE k)],[],λ_=>[],0,λk=>k<=(NC.l y).length/\lK y k,λk=>(NC.l y).length-k⟩)],[],11,[]⟩
def KW (y:vu):Prop:=ak (aC (ag y.h) 0) (ak (aC y.m 0) (aC (ag y.L) 0=kM y/\True) (false=kM y/\True)) (false=kM y/\True)
def Vl (y:NC):Prop:=let b:=y.l.length;let q1:=ag y.l;let u:=λp:Prop=>RAO y.z y.l q1 p;ak (!(aC q1 y.n)) (false=fY y/\True) ((∃z:Nat,u (0=(z:Int)/\(Iv (z<=b/\lK y z))))/\(∀x:Nat,let a:=gt (dh.mk false 0 0 0 0 0 0 0 0 0 0 []) y.l (x:Int).toNat;let v:=ay 0 (ag a.aB);let w:=!(aC a.c5 (-1));let A:=!(aC a.c4 (-1));let B:=!(aC a.c2 (-1));let C:=!(aC a.c6 (-1));let D:=!(aC a.c3 (-1));let o:=!(aC a.c7 (-1));let q:=!(aC a.c0 (-1));let r:=!(aC a.c1 (-1));let s:=!(aC a.c9 (-1));let t:=!(aC a.c8 (-1));let c:Prop:=(∃z:Nat,u (aw .i64 (x:Int) 1=(z:Int)/\(Iv ((z<=b/\lK y z)/\(b-z)<(b-x)))));let d:Prop:=(ak (ay a.c9 (-1)) (false=fY y/\True) (ak (ay y.z a.c9) (false=fY y/\True) (ak (!a.done) (ak s (false=fY y/\True) (c)) (c))));let e:Prop:=(ak (ay a.c8 (-1)) (false=fY y/\True) (ak (ay y.z a.c8) (false=fY y/\True) (ak (!a.done) (ak t (false=fY y/\True) (d)) (d))));let f:Prop:=(ak (ay a.c7 (-1)) (false=fY y/\True) (ak (ay y.z a.c7) (false=fY y/\True) (ak (!a.done) (ak o (false=fY y/\True) (e)) (e))));let g:Prop:=(ak (ay a.c6 (-1)) (false=fY y/\True) (ak (ay y.z a.c6) (false=fY y/\True) (ak (!a.done) (ak C (false=fY y/\True) (f)) (f))));let h:Prop:=(ak (ay a.c5 (-1)) (false=fY y/\True) (ak (ay y.z a.c5) (false=fY y/\True) (ak (!a.done) (ak w (false=fY y/\True) (g)) (g))));let i:Prop:=(ak (ay a.c4 (-1)) (false=fY y/\True) (ak (ay y.z a.c4) (false=fY y/\True) (ak (!a.done) (ak A (false=fY y/\True) (h)) (h))));let j:Prop:=(ak (ay a.c3 (-1)) (false=fY y/\True) (ak (ay y.z a.c3) (false=fY y/\True) (ak (!a.done) (ak D (false=fY y/\True) (i)) (i))));let k:Prop:=(ak (ay a.c2 (-1)) (false=fY y/\True) (ak (ay y.z a.c2) (false=fY y/\True) (ak (!a.done) (ak B (false=fY y/\True) (j)) (j))));let m:Prop:=(ak (ay a.c1 (-1)) (false=fY y/\True) (ak (ay y.z a.c1) (false=fY y/\True) (ak (!a.done) (ak r (false=fY y/\True) (k)) (k))));(Iv (x<=b/\lK y x))->ak (ay (x:Int) q1) (aH 0 (x:Int)/\ay (x:Int) q1/\ak v (false=fY y/\True) (ak (ay a.c0 (-1)) (false=fY y/\True) (ak (ay y.z a.c0) (false=fY y/\True) (ak (!a.done) (ak q (false=fY y/\True) (m)) (m))))) (true=fY y/\True)))
theorem Qjd (y:vu) (_:True):KW y:=by
 grind [KW,kM]
def Qje:Ok Vk:=okZ [] f28 (λ_=>ew ()) trivial Qjd
theorem x0 (y:NC):fY y=(decide ((y.l.length:Int)=y.n)&&lK y y.l.length):=aI _
theorem KX {y:NC}:∀{n k:Nat},k<=n->lK y n->lK y k
 | 0,k,h,e=>by
  obtain rfl:k=0:=ω;exact e
 | n+1,k,h,e=>by
  rw[lK,ZaW] at e;by_cases hk:k=n+1
  ·grind [lK]
  ·exact KX ω e.1
theorem Qbd {y:NC} {x:Nat} (a:x<y.l.length) (h:ND y x=false):false=fY y:=by
 rw[x0];cases e:lK y y.l.length with
 | false=>simp
 | true=>
  have:=KX (show x+1<=y.l.length by omega) e;grind [lK]
def KY (c z:Int) (d:Bool):Bool:=decide (-1<=c)&&decide (c<=z)&&(d||decide (c= -1))
theorem Γ {c z:Int} {d:Bool} {A q:Prop} (h1:KY c z d=false->A) (a:KY c z d->q):ak (ay c (-1)) (A/\True) (ak (ay z c) (A/\True) (ak (!d) (ak (!(aC c (-1))) (A/\True) q) q)):=by
 grind [KY]
theorem QqK (y:NC) (c:NF.pre y):Vl y:=by
 replace c:y.l.length<=1000:=c;unfold Vl;rw[lF];refine⟨λk=>?_,λk=>⟨?_,λx g=>?_⟩⟩
 ·grind [x0]
 ·simp only[ie,lf];exact⟨0,rfl,Zaj _,rfl⟩
 ·simp only[lf] at g;rw[lF];refine⟨λh=>?_,λh=>?_⟩
  ·simp only[gk,av] at h;have b:x<y.l.length:=ω;have i:ND y x=false->false=fY y:=Qbd b;have f:ND y x->lK y (x+1):=λe=>by grind [lK]
   have a:(⟨false,0,0,0,0,0,0,0,0,0,0,[]⟩:dh)=fA:=rfl;have hu:ND y x=(decide ((y.l.getD x fA).aB.length=0)&&edC (y.l.getD x fA).done y.z (Ny (y.l.getD x fA))):=rfl;have hi:aw .i64 (x:Int) 1=((x+1:Nat):Int):=ba ω ω;simp only[a,cS,Zad,ie,lf,km,gk,av,hi];generalize y.l.getD x fA=t at*
   have d:edC t.done y.z (Ny t)=(KY t.c0 y.z t.done&&KY t.c1 y.z t.done&&KY t.c2 y.z t.done&&KY t.c3 y.z t.done&&KY t.c4 y.z t.done&&KY t.c5 y.z t.done&&KY t.c6 y.z t.done&&KY t.c7 y.z t.done&&KY t.c8 y.z t.done&&KY t.c9 y.z t.done):=by
    simp[edC,Ny,nP,KY,Bool.and_assoc]
   rw[d] at hu;refine⟨ω,h,?_⟩;rw[lF];grind [Γ]
  ·grind [x0]
def Qjf:Ok NF:=okZ [] f29 QqI trivial QqK
end
end sx
namespace sx
open Go Go.RowKit cls syn
end sx
set_option maxRecDepth 100000
set_option maxHeartbeats 4000000
namespace sx
noncomputable section
open Go Go.RowKit cls syn
def Δ:br D:=⟨30,lG,Qdw,λ_=>True,λ_=>[.ptr 0 0],Wa,λy=>QsE (ag y.s.r),Wa,3,3⟩
structure yI where
 ru:lG
 st:HB
 aX:vu
 aG:vu
 aZ:vu
def NG (p:eu) (s:vu):B8:=⟨⟨p,s.m,s.L⟩,s.h⟩
def Cl (y:yI):Int:=if y.st.bR=true then 0 else cF .i64 y.st.pos y.st.bu
def wsT (p:eu) (s:vu) (n:Int):Bool:=mG (NG p s,n)
def Vm (y:yI):Bool:=!(ay y.st.bu 0||ay y.st.pos y.st.bu||ay 1099511627776 y.st.pos||!(y.st.bR==ay 200 (cF .i64 y.st.pos y.st.bu)))
def wsM (y:yI):Bool:=wsT y.ru.p y.aG (Cl y)&&(if nN y.ru=true then wsT y.ru.q y.aZ (Cl y) else kM y.aZ)
def Θ (y:yI):Bool:=if y.st.ea=false then aC y.st.aT 0&&aC y.st.size 0&&aC (ag y.st.aQ) 0&&kM y.aX
   else nN y.ru&&!y.st.bR&&aH 0 y.st.size&&aH y.st.size 500&&aH 0 y.st.aT&&aC y.st.aT (cF .i64 (cF .i64 y.st.bu y.st.size) 1)&&fY ⟨y.st.aQ,ag y.ru.s.r,y.st.size⟩&&wsT y.ru.p y.aX (aw .i64 (aw .i64 y.st.size 1) (Cl y))
def nF (y:yI):Bool:=lk (Vm y&&wsM y&&Θ y)
def wsP (y:yI):Prop:=EO (NG y.ru.p y.aG)/\EO (NG y.ru.p y.aX)/\lN y.ru.q/\(nN y.ru->EO (NG y.ru.q y.aZ))/\y.st.aQ.length<=1000
def wsA (y:yI):AV D.E:=Qh2 y.st (KV y.aX) (KV y.aG) (KV y.aZ)
def QqM (r x:AV D.E) (s:St D.E):C yI:=az (QhW r s) λr=>az (asAgg x) λcs=>match cs with
  | [p,l,g,o,e,z,n,h1,p1,h,b,p2,i,f,p3,j]=>aL (cA p) λ_ p=>aL (cA l) λ_ l=>aL (x_ g) λg _=>aL (x_ o) λo _=>aL (cA e) λ_ e=>aL (cA z) λ_ z=>az (aU D s 2 n) λn=>az (xZ h1 p1 h s) λc=>az (xZ b p2 i s) λa=>az (xZ f p3 j s) λd=>.ret ⟨r,⟨p,l,g,o,e,z,n⟩,c,a,d⟩
  | _=>.fail
def Λ:br D:=⟨10,yI,λa s=>match a with
 | [r,x]=>QqM r x s
 | _=>.fail,wsP,λy=>[.ptr 0 0,wsA y],λy=>Wa y.ru,λy=>.bool (nF y),λy=>Wa y.ru,3,3⟩
end
end sx
end Go.Proofs.YtklaonhcplaofaaGreat
