/- StreamRises: a part of the proof. -/
import Derived.Test.YtadfknojfbmjgaaGreatProg
import Derived.WalkKit
import Derived.Lib.Hide
import Derived.Deep.LoopGhost
import Derived.Deep.DeepCutAuto
import Derived.Laws.AppendOwnNone
import Derived.BigQuiet
import Derived.Deep.QuietTactic
import Derived.Shelf.SlGeneric
import Derived.Shelf.SlSortCmp.WholeK
import Derived.Ground.SlsfProg
import Derived.Ground.NamesProg
import Derived.Shelf.Strings.Builder1
import Derived.Shelf.LaysM
import Derived.Test.YtadfknojfbmjgaaGreatC9
import Derived.Lib.MinMax
import Derived.Deep.DeepMust
import Derived.RegionTactic
import Derived.Shelf.SlSortCmp.NoneTotal
import Derived.Test.YtadfknojfbmjgaaGreatC15
import Derived.Test.YtadfknojfbmjgaaGreatC12
import Derived.Deep.RegionHeld3
import Derived.Test.YtadfknojfbmjgaaGreatC16
set_option linter.all false
namespace Go.Proofs.YtadfknojfbmjgaaGreat
namespace sl
open Go.RowKit
variable {α:Type} {aX:α->List Value} {k:Nat}
theorem CP {w:World} {k:Nat} {o:Obj} (h:w.heap[k]?=some o):k<w.heap.size:=by
 grind
def flat (aX:α->List Value) (l:List α):List Value:=l.flatMap aX
theorem nf (hk:∀x,(aX x).length=k) (l:List α):(flat aX l).length=l.length*k:=by
 induction l with
 | nil=>simp[flat]
 | cons x t a=>
  grind [flat]
theorem jS (l m:List α):flat aX (l++m)=flat aX l++flat aX m:=by simp[flat]
theorem yq (hk:∀x,(aX x).length=k) (l:List α) (i t:Nat) (x:α) (a:l[i]?=some x) (ht:t<k):(flat aX l)[i*k+t]?=(aX x)[t]?:=by
 induction l generalizing i with
 | nil=>simp at a
 | cons y m b=>
  have e:flat aX (y::m)=aX y++flat aX m:=rfl;rcases i with _ | i
  ·grind
  ·grind
structure Rd (aX:α->List Value) (w:World) (a:Option Addr) (l:List α) (cap:Nat):Prop where
 none_:a=none->l=[]/\cap=0
 le:l.length<=cap
 max:cap<=maxLen
 at_:∀ad,a=some ad->0<cap->ad.spot=none/\ad.block<w.heap.size/\∀j u,(flat aX l)[j]?=some u->w.cell? ⟨ad.block,ad.off+j,none⟩=some u
variable {l:List α} {B:Nat} {w:World} {a:Option Addr}
theorem Rd.nil (aX:α->List Value) (w:World):Rd aX w none [] 0:=⟨λ_=>⟨rfl,rfl⟩,Zah _,ω,λ_ h _=>by cases h⟩
theorem Rd.cells {cap:Nat} (h:Rd aX w a l cap) (hk:∀x,(aX x).length=k) {i:Nat} {x:α} (j:l[i]?=some x):
  ∃b off,a=some ⟨b,off,none⟩/\b<w.heap.size/\∀t u,t<k->(aX x)[t]?=some u->w.cell? ⟨b,off+(i*k+t),none⟩=some u:=by
 obtain⟨h1,f,g,c⟩:=h;rcases a with _ | ⟨b,off,sp⟩
 ·grind
 ·have hi:i<l.length:=by
   grind
  obtain⟨hs,d,e⟩:=c _ rfl ω;obtain rfl:sp=none:=hs;exact⟨b,off,rfl,d,λt u ht hu=>e _ _ (by grind [yq])⟩
def Rd.below {f:World} (h:Rd aX w a l B) {cap:Nat} (c:Below cap w f) (k:∀b,a=some b->0<B->b.block<cap):Rd aX f a l B:=
 ⟨h.none_,h.le,h.max,λb e d=>by
  obtain⟨h1,g,i⟩:=h.at_ b e d;exact⟨h1,ZbB g c.size,λj u hu=>(c.cell (p:=⟨b.block,b.off+j,none⟩) (k b e d)).trans (i j u hu)⟩⟩
def Rd.kept {b:World} (h:Rd aX w a l B) (d:Below w.heap.size w b):Rd aX b a l B:=
 h.below d λc e f=>(h.at_ c e f).2.1
def j9 (aX:α->List Value) (k:Nat) (E:TypeId) (B:Nat) (w:World) (v:Value) (l:List α):Prop:=w.ownsRow B E k v l.length (flat aX l)
theorem j9.rd {E:TypeId} {v:Value} (h:j9 aX k E B w v l):∃a cap,v=.slice a l.length cap/\Rd aX w a l cap/\∀b,a=some b->B<=b.block:=by
 rcases h.2 with⟨rfl,c⟩ | ⟨g,cap,cur,rfl,f,i,c,d,hs,ht⟩
 ·grind [Rd.nil]
 ·refine⟨some ⟨g,0,none⟩,cap,rfl,⟨λh=>(nomatch h),c,d,λb e _=>?_⟩,λb e=>(by grind)⟩;grind [World.cell?]
theorem getD_eq (h:B<l.length) (d:α):l[B]?=some (l.getD B d):=by
 grind
structure mf (P:Program) (T E:TypeId) (k bytes:Nat):Prop where
 uJ:P.underlying T=some (.slice E)
 ex:∃i z,P.info? E=some i/\i.zero=some z/\i.size=k/\i.bytes=bytes/\z.cells.size=k
 pos:0<k
variable {B a m X:Nat} {E c:TypeId} {w d:World} {v:Value} {l:List α} {Z:Program} {Y:Array Value} {W:Type} {V:Array Oper} {U:List Oper} {O:Exit->Act->World->Prop} {s x:Operand}
variable {N:List W}
def mf.mk' {z:Value} (h1:Z.underlying E=some (.slice c)) (bytes:(Z.info? c).map (λi=>(i.zero,i.size,i.bytes))=some (some z,B,a)) (b:z.cells.size=B) (T:0<B):mf Z E c B a:=by
 obtain⟨i,hi,hz,hs,d⟩:=info_parts bytes;exact⟨h1,⟨i,z,hi,hz,hs,d,b⟩,T⟩
theorem j9.nil (aX:α->List Value) (k:Nat) (E:TypeId) (B:Nat) (w:World):j9 aX k E B w (.slice none 0 0) []:=World.ownsRow_nil _ _ _ _
theorem j9.alloc (h:j9 aX k E B w v l) (o:Obj):j9 aX k E B (w.alloc o) v l:=World.ownsRow.alloc h o
def j9.drewN (h:j9 aX k E B w v l) (n:Nat):j9 aX k E B (w.drewN n) v l:=h
theorem j9.below (h:j9 aX k E B w v l) (i:Below a w d) (f:w.heap.size<=a):j9 aX k E B d v l:=by
 refine⟨h.1,?_⟩;rcases h.2 with b | ⟨g,cap,cur,h1,b,c,e⟩
 ·grind
 ·exact .inr ⟨g,cap,cur,h1,b,(i.block g (ZbB (CP c) f)).trans c,e⟩
def j9.lt (h:j9 aX k E B w v l):∀k,v.ownBlock=some k->B<=k/\k<w.heap.size:=World.ownsRow.lt h
theorem j9.mono (h:j9 aX k E B w v l) (d:a<=B):j9 aX k E a w v l:=by
 refine⟨h.1,?_⟩;rcases h.2 with b | ⟨g,cap,cur,h1,b,c⟩
 ·grind
 ·exact .inr ⟨g,cap,cur,h1,Zav d b,c⟩
def Below.grow {b:World} (w0:Below a w d) (h:j9 aX k E B d v l) (e:d.grownBy b v.ownBlock) (c:a<=B) (hs:a<=d.heap.size):Below a w b:=
 w0.grown e hs λk hk=>Zav c (h.lt k hk).1
theorem Rd.built {cs:Array Value} (l:List α) (n:Nat) (d:l.length=n) (a:cs.toList=flat aX l) (c:n<=4096):Rd aX (w.alloc (.cells cs E)) (some ⟨w.heap.size,0,none⟩) l n:=
 ⟨λh=>(nomatch h),ω,by grind [maxLen],λb e _=>by
  cases e;refine⟨rfl,by simp,λj u hu=>?_⟩;rw[<-a] at hu;simp;simpa using hu⟩
theorem yu {o:Oper} {bytes:Act} {p:Option Addr} {f:List α}
  (G:mf Z E c k B) (g:o.guard=none) (C:o.op=.call { callee:=.builtin .append,args:=#[s,x],argTypes:=#[E,E] })
  (hs:bytes.eval s=v) (D:bytes.eval x=.slice p m X) (e:j9 aX k c a w v l) (d:Rd aX w p f X) (A:m=f.length) (hk:∀x,(aX x).length=k) (h1:∀x,∀u∈aX x,u.oneCell')
  (n:l.length+f.length<=1000000000) (OG:B<=65536) (H:a<=w.heap.size)
  (h:∀F t,j9 aX k c a t F (l++f)->w.grownBy t v.ownBlock->wpList Z V O U (bytes.put o.dst F) t):wpList Z V O (o::U) bytes w:=by
 obtain⟨hu,⟨i,z,hi,hz,cI,q,eG⟩,J⟩:=G;rcases p with _ | ⟨b,off,sp⟩
 ·obtain⟨rfl,rfl⟩:=d.none_ rfl;subst A;refine wpList_append_own_none g s x E C a c i k hu hi v l.length _ hs e D ?_;grind [World.grownBy.refl]
 ·have r:∀j u,(flat aX f)[j]?=some u->w.cell? ((⟨b,off,sp⟩:Addr).add j)=some u:=λj u M=>by
   have hle:=d.le;have I:0<f.length:=by
    grind [flat]
   obtain⟨K,_,L⟩:=d.at_ _ rfl ω;grind [Addr.add_lit]
  have hmul:(l.length+f.length)*B<=1000000000*65536:=Zci n OG;refine wpList_append_own w g s x E C a c i z k B hu hi hz cI q eG J v l.length _ hs e ⟨b,off,sp⟩ m X (flat aX f) D (by rw[nf hk,A]) r (λu hu=>?_) (by grind [maxLen]) (by grind) H ?_
  ·obtain⟨y,_,N⟩:=ZbG.1 hu;grind
  ·grind [j9,jS]
theorem pD {o:Oper} {bytes:Act} {e:TypeId}
  (i:mf Z E c k B) (T:o.guard=none) (n:o.op=.call { callee:=.builtin .append,args:=#[s,x],argTypes:=#[E,E] })
  (hs:bytes.eval s=v) (p:bytes.eval x=.slice (some ⟨m,0,none⟩) 1 1) (j:m=w.heap.size) (b:j9 aX k c a w v l) (y:α) (r:Y.toList=aX y) (hk:∀x,(aX x).length=k) (h1:∀x,∀u∈aX x,u.oneCell')
  (f:l.length<1000000000) (OG:B<=65536) (q:a<=w.heap.size)
  (h:∀g d,j9 aX k c a d g (l++[y])->(w.alloc (.cells Y e)).grownBy d v.ownBlock->wpList Z V O U (bytes.put o.dst g) d):wpList Z V O (o::U) bytes (w.alloc (.cells Y e)):=by
 subst j;exact yu i T n hs p (b.alloc _) (Rd.built [y] 1 rfl (by grind [flat]) ω) rfl hk h1 (by simp;omega) OG (by simp;omega) h
def od {b:World} (e:Below a w d) (h:j9 aX k E B d v l) (f:(d.alloc (.cells Y c)).grownBy b v.ownBlock) (w0:a<=B) (hs:a<=d.heap.size):Below a w b:=
 Below.grow (e.alloc hs _) (h.alloc _) f w0 (by simp;omega)
theorem xa {x:W} (h:N[B]?=some x):B<N.length:=by
 grind
theorem Wy (hk:∀x,(aX x).length=k) (l:List α) (i t:Nat) (x y:α) (u:Value) (a:l[i]?=some x) (ht:t<k) (c:(aX x).set t u=aX y):(flat aX l).set (i*k+t) u=flat aX (l.set i y):=by
 induction l generalizing i with
 | nil=>simp at a
 | cons z m b=>
  have e:∀z,flat aX (z::m)=aX z++flat aX m:=λ_=>rfl
  rcases i with _ | i
  ·grind
  ·simp only[Zcm] at a;rw[Zdd,e,ZbY _ _ (by grind),hk,show(i+1)*k+t-k=i*k+t by grind,b i a];rfl
theorem j9.store (h:j9 aX k E B w (.slice (some ⟨a,0,none⟩) m X) l) (g:m=l.length) (hk:∀x,(aX x).length=k) {i t:Nat} {x y:α} {u:Value} (c:l[i]?=some x) (ht:t<k) (b:(aX x).set t u=aX y):
  j9 aX k E B (w.setCell ⟨a,i*k+t,none⟩ u) (.slice (some ⟨a,0,none⟩) m X) (l.set i y):=by
 subst g;have:=(World.ownsRow.stored h (i*k+t) u).1;grind [Wy,j9]
theorem j9.form (h:j9 aX k E B w v l) (b:l≠[]):∃g cap,v=.slice (some ⟨g,0,none⟩) l.length cap/\B<=g/\g<w.heap.size/\l.length<=cap/\cap<=maxLen:=by
 rcases h.2 with⟨rfl,a⟩ | ⟨g,cap,cur,rfl,c,d,a,e,hs,ht⟩
 ·grind
 ·grind
theorem j9.cellAt (h:j9 aX k E B w (.slice (some ⟨a,0,none⟩) m X) l) (b:m=l.length) (hk:∀x,(aX x).length=k) {i t:Nat} {x:α} (c:l[i]?=some x) (ht:t<k) (hu:(aX x)[t]?=some v):
  w.cell? ⟨a,i*k+t,none⟩=some v/\w.frozen? ⟨a,i*k+t,none⟩=false:=by
 subst b;have hi:=xa c;have g:i*k+t<l.length*k:=by
  have:(i+1)*k<=l.length*k:=Zbc k hi;grind
 refine⟨?_,World.ownsRow.frozenAt h _⟩;rw[World.ownsRow.cellAt h (i*k+t) g,<-hu];grind [yq]
def pE (h:Below B w d) (n:Nat):Below B w (d.drewN n):=⟨h.os,h.tape,h.output,h.size,h.block⟩
theorem tT {β:Type} (f:W->List β) {p:W} (h:N[B]?=some p):(N.take (B+1)).flatMap f=(N.take B).flatMap f++f p:=by
 grind [List.take_add_one]
theorem fA {β:Type} (f:W->List β) (n:Nat) (h:∀x,(f x).length<=n) (l:List W):(l.flatMap f).length<=l.length*n:=by
 induction l with
 | nil=>simp
 | cons x t a=>simp only[Zbt,Zab,Zae];have:=h x;rw[ZaV];omega
variable {α:Type} {aX:α->List Value} {k:Nat}
variable {E Y g:TypeId} {B:Nat} {v:Value} {l:List α} {w:World}
def bR (w:World) (v a:Value):Prop:=a.ownBlock=v.ownBlock\/a.ownBlock=none\/∃k,a.ownBlock=some k/\w.heap.size<=k
theorem QaZ {P:Program} (w:World) {ty:TypeId} {bytes:Nat} {b off m c:Nat} (news:List Value)
  (I:mf P E Y k B) (d:j9 aX k Y bytes w v l) (hl:news.length=m*k) (C:∀j u,news[j]?=some u->w.cell? ⟨b,off+j,none⟩=some u) (h1:∀u∈news,u.oneCell')
  (t:l.length+m<=maxLen) (f:(l.length+m)*B<=140737488355328) (L:bytes<=w.heap.size):
  ∃q r,(Builtin.append_ #[E,E] ty #[v,.slice (some ⟨b,off,none⟩) m c]).run P w=.ok q r/\r.ownsRow bytes Y k q (l.length+m) (flat aX l++news)/\w.grownBy r v.ownBlock/\bR w v q:=by
 obtain⟨hu,⟨i,z,hi,hz,cI,o,eG⟩,H⟩:=I;have n:∀j u,news[j]?=some u->w.cell? ((⟨b,off,none⟩:Addr).add j)=some u:=λj u h=>by grind [Addr.add_lit]
 obtain⟨q,r,s,J,K,_⟩:=run_append_own (P:=P) w bytes E ty Y i z k B hu hi hz cI o eG H v l.length _ d ⟨b,off,none⟩ m c news hl n h1 t f L;refine⟨q,r,s,J,K,?_⟩;rcases d.2 with⟨rfl,Q⟩ | ⟨g,cap,cur,rfl,M,O,R,N,x,D⟩
 ·have A:l=[]:=Zap Q;subst A;obtain⟨U,V,a,k2,_,_⟩:=run_append_own (P:=P) w w.heap.size E ty Y i z k B hu hi hz cI o eG H (.slice none 0 0) 0 [] (World.ownsRow_nil _ _ _ _) ⟨b,off,none⟩ m c news hl n h1 (by assumption) (by assumption) (Zah _);rw[s] at a;cases a;rcases k2.2 with⟨rfl,_⟩ | ⟨g2,F,G,rfl,y,_⟩
  ·exact .inr (.inl rfl)
  ·exact .inr (.inr ⟨g2,rfl,y⟩)
 ·by_cases e:l.length+m<=cap
  ·have p:l.length*i.size+news.length<=cur.size:=by rw[hl,x,cI,<-ZbL];exact Zbc _ e
   have a:=run_append_room (P:=P) w E ty Y i hu hi g l.length cap cur O ⟨b,off,none⟩ m c news (by grind) n h1 e p;rw[s] at a;cases a;exact .inl rfl
  ·have holds:∀j u,(flat aX l)[j]?=some u->w.cell? ((⟨g,0,none⟩:Addr).add j)=some u:=World.ownsRow.cells d (g:=g) rfl;have S:l.length+m<=9223372036854775807:=by assumption
   have a:=run_append_grow (P:=P) w E ty Y i z hu hi hz ⟨g,0,none⟩ l.length cap (flat aX l) (by rw[cI];exact d.1) holds ⟨b,off,none⟩ m c news (by grind) n ω ω (growslice_fits ω (by grind));rw[s] at a;cases a;exact .inr (.inr ⟨_,rfl,Zah _⟩)
theorem CQ {P:Program} {ops:Array Oper} {rest:List Oper} {o:Oper} {a:Act} {Q:Exit->Act->World->Prop} {T E:TypeId} {bytes:Nat} {s x:Operand} {cs:Array Value} {n:Nat}
  (r:mf P T E k B) (i:o.guard=none) (F:o.op=.call { callee:=.builtin .append,args:=#[s,x],argTypes:=#[T,T] })
  (hs:a.eval s=v) (H:a.eval x=.slice (some ⟨n,0,none⟩) 1 1) (D:n=w.heap.size) (d:j9 aX k E bytes w v l) (y:α) (I:cs.toList=aX y) (hk:∀x,(aX x).length=k) (h1:∀x,∀u∈aX x,u.oneCell')
  (q:l.length<1000000000) (OG:B<=65536) (M:bytes<=w.heap.size)
  (h:∀e f,j9 aX k E bytes f e (l++[y])->(w.alloc (.cells cs g)).grownBy f v.ownBlock->bR w v e->wpList P ops Q rest (a.put o.dst e) f):wpList P ops Q (o::rest) a (w.alloc (.cells cs g)):=by
 subst D;have hmul:(l.length+1)*B<=1000000000*65536:=Zci ω OG;have p:=Rd.built (w:=w) (E:=g) (cs:=cs) (aX:=aX) [y] 1 rfl (by simp[I,flat]) ω;obtain⟨_,_,C⟩:=p.at_ _ rfl ω;obtain⟨e,f,G,J,t,b⟩:=QaZ (P:=P) (ty:=o.type) (m:=1) (c:=1) (w.alloc (.cells cs g)) (flat aX [y]) r (d.alloc _) (by rw[nf hk];rfl) C (λu hu=>by
  obtain⟨z,_,hz⟩:=ZbG.1 hu;exact h1 z u hz) (by grind [maxLen]) ω (by grind)
 refine wpList_plain i λK A=>?_
 unfold Oper.wp execOp;simp only[F,resolve,invoke,builtin,Zzd,Zzc,Zzb,List.map_toArray,Zbl,Zcj,hs,H,G];refine A _ _ (h e f ?_ t ?_)
 ·grind [j9,jS]
 ·rcases b with b | b | ⟨j,b,L⟩
  ·exact .inl b
  ·exact .inr (.inl b)
  ·exact .inr (.inr ⟨j,b,by grind⟩)
def ia (v u:Value):Prop:=∀k,v.ownBlock=some k->u.ownBlock≠some k
theorem j9.aH {a:World} {u:Value} (h:j9 aX k E B w v l) (c:w.grownBy a u.ownBlock) (b:ia v u):j9 aX k E B a v l:=by
 refine World.ownsRow.kept h c ?_;rcases d:v.ownBlock with _ | j
 ·grind
 ·refine .inr λe=>b j d e.symm
theorem ia.fresh {u c:Value} (d:ia v u) (h:j9 aX k E B w v l) (a:bR w u c):ia v c:=by
 intro j b e;rcases a with a | a | ⟨k2,a,f⟩
 ·exact d j b (a▸e)
 ·grind
 ·have:=(h.lt j b).2;grind
end sl
end Go.Proofs.YtadfknojfbmjgaaGreat
namespace Go.Proofs
open Go.Proofs.YtadfknojfbmjgaaGreat
open Go.Shelf
def Tryz.sortRg_ren:Go.Shelf.Ren:=⟨λ| 6=>172 | 15=>194 | 14=>193 | 28=>209 | 29=>210 | 20=>201 | 21=>202 | 22=>203 | 23=>204 | 24=>205 | 25=>206 | 26=>207 | 27=>208 | 46=>212 | 47=>213 | 48=>214 | 49=>215 | 50=>216 | 57=>217 | n=>n,λ| 22=>126 | 24=>267 | 25=>270 | 3=>3 | 39=>208 | 0=>0 | 53=>299 | 55=>301 | 4=>4 | 46=>293 | 45=>292 | 50=>178 | 5=>5 | 9=>9 | 66=>304 | 70=>308 | 76=>310 | 77=>217 | n=>n,λ| n=>n⟩
def Tryz.sortRg:Go.Proofs.SlLaysF0.n6 Tryz.prog Tryz.sortRg_ren:={
 mixed:=by kernel_rfl
 f6:=⟨Tryz.f172.name,by decide,Tryz.func172.trans (ZaR some (by kernel_rfl))⟩
 f14:=⟨Tryz.f193.name,by decide,Tryz.func193.trans (ZaR some (by kernel_rfl))⟩
 f15:=Tryz.func194.trans (ZaR some (by kernel_rfl))
 f20:=⟨Tryz.f201.name,by decide,Tryz.func201.trans (ZaR some (by kernel_rfl))⟩
 f21:=⟨Tryz.f202.name,by decide,Tryz.func202.trans (ZaR some (by kernel_rfl))⟩
 f22:=⟨Tryz.f203.name,by decide,Tryz.func203.trans (ZaR some (by kernel_rfl))⟩
 f23:=⟨Tryz.f204.name,by decide,Tryz.func204.trans (ZaR some (by kernel_rfl))⟩
 f24:=⟨Tryz.f205.name,by decide,Tryz.func205.trans (ZaR some (by kernel_rfl))⟩
 f25:=⟨Tryz.f206.name,by decide,Tryz.func206.trans (ZaR some (by kernel_rfl))⟩
 f26:=⟨Tryz.f207.name,by decide,Tryz.func207.trans (ZaR some (by kernel_rfl))⟩
 f27:=⟨Tryz.f208.name,by decide,Tryz.func208.trans (ZaR some (by kernel_rfl))⟩
 f28:=Tryz.func209.trans (ZaR some (by kernel_rfl))
 f29:=Tryz.func210.trans (ZaR some (by kernel_rfl))
 f46:=⟨Tryz.f212.name,by decide,Tryz.func212.trans (ZaR some (by kernel_rfl))⟩
 f47:=Tryz.func213.trans (ZaR some (by kernel_rfl))
 f48:=Tryz.func214.trans (ZaR some (by kernel_rfl))
 f49:=⟨Tryz.f215.name,by decide,Tryz.func215.trans (ZaR some (by kernel_rfl))⟩
 f50:=⟨Tryz.f216.name,by decide,Tryz.func216.trans (ZaR some (by kernel_rfl))⟩
 f57:=⟨Tryz.f217.name,by decide,Tryz.func217.trans (ZaR some (by kernel_rfl))⟩
 t0:=Tryz.underlying0
 a0:=Tryz.isAgg0
 z0:=Tryz.sizeOf0
 v0:=Tryz.zeroValue0
 t3:=Tryz.underlying3
 a3:=Tryz.isAgg3
 z3:=Tryz.sizeOf3
 v3:=Tryz.zeroValue3
 t4:=Tryz.underlying4
 a4:=Tryz.isAgg4
 z4:=Tryz.sizeOf4
 v4:=Tryz.zeroValue4
 t5:=Tryz.underlying5
 a5:=Tryz.isAgg5
 z5:=Tryz.sizeOf5
 v5:=Tryz.zeroValue5
 t9:=Tryz.underlying9
 a9:=Tryz.isAgg9
 z9:=Tryz.sizeOf9
 v9:=Tryz.zeroValue9
 t22:=Tryz.underlying126
 a22:=Tryz.isAgg126
 z22:=Tryz.sizeOf126
 v22:=Tryz.zeroValue126
 t25:=Tryz.underlying270
 a25:=Tryz.isAgg270
 z25:=Tryz.sizeOf270
 v25:=Tryz.zeroValue270
 t39:=Tryz.underlying208
 a39:=Tryz.isAgg208
 z39:=Tryz.sizeOf208
 v39:=Tryz.zeroValue208
 t45:=Tryz.underlying292
 a45:=Tryz.isAgg292
 z45:=Tryz.sizeOf292
 v45:=Tryz.zeroValue292
 t46:=Tryz.underlying293
 a46:=Tryz.isAgg293
 z46:=Tryz.sizeOf293
 v46:=Tryz.zeroValue293
 t50:=Tryz.underlying178
 a50:=Tryz.isAgg178
 z50:=Tryz.sizeOf178
 v50:=Tryz.zeroValue178
 t53:=Tryz.underlying299
 a53:=Tryz.isAgg299
 z53:=Tryz.sizeOf299
 v53:=Tryz.zeroValue299
 t55:=Tryz.underlying301
 a55:=Tryz.isAgg301
 z55:=Tryz.sizeOf301
 v55:=Tryz.zeroValue301
 t66:=Tryz.underlying304
 a66:=Tryz.isAgg304
 z66:=Tryz.sizeOf304
 v66:=Tryz.zeroValue304
 t70:=Tryz.underlying308
 a70:=Tryz.isAgg308
 z70:=Tryz.sizeOf308
 v70:=Tryz.zeroValue308
 t76:=Tryz.underlying310
 a76:=Tryz.isAgg310
 z76:=Tryz.sizeOf310
 v76:=Tryz.zeroValue310
 t77:=Tryz.underlying217
 a77:=Tryz.isAgg217
 z77:=Tryz.sizeOf217
 v77:=Tryz.zeroValue217 }
end Go.Proofs
namespace Go.Proofs.YtadfknojfbmjgaaGreat
namespace cls
open Go.RowKit sl Go.Shelf
def er (r:Rg):List Value:=[.int .i32 r.1,.int .i32 r.2]
def jZ (r:Rg):(er r).length=2:=rfl
def Rd.pair {w:World} {a:Option Addr} {l:List Rg} {cap:Nat} (h:Rd er w a l cap) {i:Nat} {x:Rg} (e:l[i]?=some x):
  ∃b off,a=some ⟨b,off,none⟩/\b<w.heap.size/\w.cell? ⟨b,off+i*2,none⟩=some (.int .i32 x.1)/\w.cell? ⟨b,off+i*2+1,none⟩=some (.int .i32 x.2):=by
 obtain⟨b,off,h1,d,c⟩:=h.cells jZ e;exact⟨b,off,h1,d,c 0 _ ω rfl,by have:=c 1 (.int .i32 x.2) ω rfl;rwa [<-Za4] at this⟩
def yv (r:Rg):∀u∈er r,u.oneCell':=by
 intro u hu;simp[er] at hu;rcases hu with rfl | rfl<;>rfl
def vX:mf Tryz.prog 126 267 2 8:=mf.mk' (z:=.agg #[.int .i32 0,.int .i32 0]) Tryz.underlying126 (by kernel_rfl) rfl (by decide)
abbrev zp (B:Nat) (w:World) (v:Value) (l:List Rg):Prop:=j9 er 2 267 B w v l
set_option maxHeartbeats 2000000 in
theorem Qmp (x y:Int) (w:World):
  Calls Tryz.prog 171 #[.agg #[.int .i32 x,.int .i32 y]] w λe C=>∃v,e=.returned v/\zp w.heap.size C v (dY (x,y))/\Below w.heap.size w C:=by
 obtain⟨lo,m⟩:∃lo,lo=max x 0:=⟨_,rfl⟩
 obtain⟨hi,l⟩:∃hi,hi=min y 1114111:=⟨_,rfl⟩
 have h:=Lib.hid m
 have f:=Lib.hid l
 clear m l
 go_enter Tryz.func171,Tryz.ntmps171
 go_wp2_with fail
 rw[<-h.out,<-f.out]
 obtain⟨b,a⟩:∃b,b=(w.alloc (.cells #[.int .i32 lo,.int .i32 hi] 267)).alloc (.cells #[.int .i32 0,.int .i32 55295,.int .i32 57344,.int .i32 1114111] 267):=⟨_,rfl⟩
 have D:Rd er b (some ⟨w.heap.size+1,0,none⟩) parts 2:=by
  subst a
  have:=Rd.built (aX:=er) (w:=w.alloc (.cells #[.int .i32 lo,.int .i32 hi] 267)) (E:=267) (cs:=#[.int .i32 0,.int .i32 55295,.int .i32 57344,.int .i32 1114111]) parts 2 rfl rfl ω
  simp_all
 have c:Below w.heap.size w b:=by
  subst a
  exact((Below.refl _ _).alloc (Zah _) _).alloc (by simp) _
 have r:b.cell? ⟨w.heap.size,0,none⟩=some (.int .i32 lo):=by subst a;simp[go_sem]
 have s:b.cell? ⟨w.heap.size,1,none⟩=some (.int .i32 hi):=by subst a;simp[go_sem]
 have cI:w.heap.size<b.heap.size:=by subst a;simp;omega
 rw[<-a]
 clear a
 go_loopg [3,19] 2 (λg v i wr=>∃k:Nat,k<=2/\g=2-k/\i=.int .i64 k/\zp b.heap.size wr v ((parts.take k).flatMap (clip (lo,hi)))/\Below w.heap.size w wr/\Below b.heap.size b wr)
 case atStart=>exact⟨0,ω,rfl,rfl,j9.nil _ _ _ _ _,c,Below.refl _ _⟩
 case round=>
  obtain⟨k,hk,rfl,rfl,q,o,lK⟩:=hrel
  have hs:=o.size
  by_cases t:k<2
  ·obtain⟨⟨p0,p1⟩,u⟩:∃x,parts[k]?=some x:=⟨_,Zaf t⟩
   obtain⟨H,K,e2,A,c0,c1⟩:=Rd.pair (D.kept lK) u
   cases e2
   simp only[Za6] at c0 c1
   have I:=(lK.cell (p:=⟨w.heap.size,0,none⟩) cI).trans r
   have J:=(lK.cell (p:=⟨w.heap.size,1,none⟩) cI).trans s
   have B:w.heap.size<wr.heap.size:=ZbB cI lK.size
   have z:=Lib.hid u
   clear u
   have hlen:=fA (clip (lo,hi)) 1 (DN _) (parts.take k)
   have F:(parts.take k).length<=2:=by simp[parts];omega
   by_cases G:max lo p0<=min hi p1
   ·go_wp2_with (at_builtin;go_must (refine pD vX rfl rfl rfl rfl (by simp) ((q.alloc _).alloc _) (max lo p0,min hi p1) rfl jZ yv ω ω (by have:=lK.size;simp;omega) ?_);intro L M o1 g1)
    go_roundg (2-(k+1))
    case measure=>omega
    case rel=>
     have d:clip (lo,hi) (p0,p1)=[(max lo p0,min hi p1)]:=by unfold clip;rw[Zac G]
     have n:=(q.alloc (.cells #[.int .i32 p0,.int .i32 p1] 267)).alloc (.cells #[.int .i32 (max lo p0),.int .i32 (min hi p1)] 267)
     have j:=((Below.refl wr.heap.size wr).alloc (Zah _) (.cells #[.int .i32 p0,.int .i32 p1] 267)).alloc (by simp) (.cells #[.int .i32 (max lo p0),.int .i32 (min hi p1)] 267)
     refine⟨k+1,ω,rfl,by go_num,?_,?_,?_⟩
     ·rw[tT _ z.out,d]
      exact o1
     ·exact od (o.trans (j.mono hs)) n g1 c.size (by simp;omega)
     ·exact od (lK.trans (j.mono lK.size)) n g1 (Zah _) (by have:=lK.size;simp;omega)
   ·go_wp2_with fail
    go_roundg (2-(k+1))
    case measure=>omega
    case rel=>
     have d:clip (lo,hi) (p0,p1)=[]:=by unfold clip;rw[Zaa (show ¬max lo p0<=min hi p1 by omega)]
     have j:=((Below.refl wr.heap.size wr).alloc (Zah _) (.cells #[.int .i32 p0,.int .i32 p1] 267)).alloc (by simp) (.cells #[.int .i32 (max lo p0),.int .i32 (min hi p1)] 267)
     refine⟨k+1,ω,rfl,by go_num,?_,o.trans (j.mono hs),lK.trans (j.mono lK.size)⟩
     rw[tT _ z.out,d,Zaw]
     exact(q.alloc _).alloc _
  ·obtain rfl:k=2:=ω
   go_wp2_with fail
   go_ret
   refine⟨_,rfl,?_,o⟩
   have e:dY (x,y)=(parts.take 2).flatMap (clip (lo,hi)):=by simp only[dY,h.out,f.out];rfl
   rw[e]
   exact q.mono c.size
set_option maxHeartbeats 2000000 in
theorem cmp (x y:Rg) (w:World) (h: -2147483648<=x.1-y.1/\x.1-y.1<=2147483647):Calls Tryz.prog 173 #[.agg #[.int .i32 x.1,.int .i32 x.2],.agg #[.int .i32 y.1,.int .i32 y.2]] w λe a=>e=.returned (.int .i64 (x.1-y.1))/\a=(w.alloc (.cells #[.int .i32 x.1,.int .i32 x.2] 267)).alloc (.cells #[.int .i32 y.1,.int .i32 y.2] 267):=by
 obtain⟨h1,b⟩:=h
 go_enter Tryz.func173,Tryz.ntmps173
 go_wp2_with fail
 go_ret
 simp_all
def Wz {B:Nat} {w:World} {g n cap:Nat} {l:List Rg} (h:zp B w (.slice (some ⟨g,0,none⟩) n cap) l) (a:n=l.length) {i:Nat} {x:Rg} (b:l[i]?=some x):
  w.cell? ⟨g,i*2,none⟩=some (.int .i32 x.1)/\w.cell? ⟨g,i*2+1,none⟩=some (.int .i32 x.2)/\w.frozen? ⟨g,i*2,none⟩=false/\w.frozen? ⟨g,i*2+1,none⟩=false:=
 ⟨(h.cellAt a jZ b (t:=0) ω rfl).1,(h.cellAt a jZ b (t:=1) ω rfl).1,(h.cellAt a jZ b (t:=0) ω rfl).2,(h.cellAt a jZ b (t:=1) ω rfl).2⟩
open Go.Sort (Holds HoldsK flatK get_flatK size_flatK putRow putRowK putCells SWO mapBlock onCells PermIn SortedIn alloc_eq_grow grow_grow grow)
structure C3 where
 r:Rg
 lo:0<=r.1/\r.1<=1114111
instance:Inhabited C3:=⟨⟨(0,0),by decide⟩⟩
variable {w:World} {g:Nat} {Z:Array Obj}
def ev (r:C3):List Value:=er r.r
def cf (x y:C3):Int:=x.r.1-y.r.1
theorem LS:∀(l:List Rg),(∀r∈l,0<=r.1/\r.1<=1114111)->∃b:List C3,b.map C3.r=l
 | [],_=>⟨[],rfl⟩
 | r::t,h=>by
  obtain⟨c,ht⟩:=LS t (λx a=>h x (by simp[a]));exact⟨⟨r,h r (by simp)⟩::c,by simp[ht]⟩
def LU (a:List C3):flat er (a.map C3.r)=flat ev a:=by
 rw[flat,flat,Zdz];rfl
theorem CR (r:C3):(ev r).length=2:=rfl
theorem yw (d:Array C3):(flatK ev 2 d).toList=flat ev d.toList:=by
 apply Zb6;intro t;by_cases ht:t<d.size*2
 ·have h1:(flatK ev 2 d)[t]! =(ev d[t / 2]!)[t % 2]!:=get_flatK ev 2 d t ht;have a:t<(flatK ev 2 d).size:=by simpa using ht
  have c:t / 2<d.size:=ω;have e:d.toList[t / 2]?=some d[t / 2]!:=by
   grind
  have b:=yq CR d.toList (t / 2) (t % 2) _ e ω;grind [CR]
 ·rw[Zbd (by simp;omega),Zbd (by rw[nf CR];simp;omega)]
theorem vY (x y:C3):ltOf cf x y=decide (x.r.1<y.r.1):=by
 unfold ltOf cf;grind
def swo:SWO (ltOf cf) where
 irrefl x:=by rw[vY];simp
 trans x y z h1 h2:=by rw[vY] at*;simp at*;omega
 ntrans x y z h1 h2:=by rw[vY] at*;simp at*;omega
def Qa0 (bN off size:Nat) (w:World):CmpLays Tryz.prog 173 #[] ev 2 cf bN off size w:=by
 intro m os a _ x y;have b:=x.lo;have c:=y.lo;refine(cmp x.r y.r _ ω).mono ?_;rintro e d ⟨rfl,rfl⟩;exact⟨rfl,0,_,by rw[Go.Sort.alloc_eq_grow,Go.Sort.alloc_eq_grow,Go.Sort.grow_grow];rfl⟩
theorem FV {n:Nat} {cur:Array Value} {e:TypeId} {fr:Nat×Nat} (d:Array Value) (a:w.heap[g]?=some (.cells cur e fr)):
  (Go.Sort.grow (Go.Sort.putRow id (Go.Sort.ahead w n) g 0 d) Z).heap[g]?=some (.cells (Go.Sort.putCells id 0 d cur) e fr):=by
 grind [Go.Sort.heap_grow_old,Go.Sort.putRow,Go.Sort.mapBlock,Go.Sort.ahead,Go.Sort.onCells]
theorem Jy {n:Nat} (d:Array Value) (k:Nat) (hk:k<w.heap.size) (a:k≠g):(Go.Sort.grow (Go.Sort.putRow id (Go.Sort.ahead w n) g 0 d) Z).heap[k]?=w.heap[k]?:=by
 grind [Go.Sort.heap_grow_old,Go.Sort.putRow,Go.Sort.mapBlock,Go.Sort.ahead]
theorem zq (cur:Array Value) (a:List Value) (h:a.length<=cur.size):(Go.Sort.putCells id 0 a.toArray cur).toList.take a.length=a:=by
 apply Zb6;grind [Go.Sort.putCells]
theorem Qa1 (w:World):(isAgg 267).run Tryz.prog w=.ok true w:=by
 simp_all
theorem sort {v:Value} {l:List Rg} (h:zp g w v l) (M:∀r∈l,0<=r.1/\r.1<=1114111) (hl:l.length<=1000000000) (O:g<=w.heap.size):
  Calls Tryz.prog 172 #[v,.func (.func 173) #[] #[]] w λe o=>e=.returned (.tuple #[])/\
   ∃C,C.Perm l/\C.Pairwise (λa b=>a.1<=b.1)/\zp g o v C/\Below g w o:=by
 rcases h.2 with⟨rfl,y⟩ | ⟨B,cap,cur,rfl,p,E,y,I,hs,ht⟩
 ·obtain rfl:l=[]:=Zap y;refine(AnyF.slices_SortFunc_none Tryz.sortRg none 0 _ w).mono ?_;rintro e o ⟨rfl,rfl⟩;exact⟨rfl,[],List.Perm.refl _,List.Pairwise.nil,h,Below.refl _ _⟩
 ·obtain⟨d,rfl⟩:=LS l M;have F:∀args w,(callFunc 173 args).run Tryz.prog w=.ok (.enter 173 args) w:=enters_of Tryz.func173 (by kernel_rfl) rfl
  have hlen:(d.map C3.r).length=d.toArray.size:=by simp
  have hH:HoldsK ev 2 w B 0 d.toArray:=by
   intro j t;have u:j<d.length*2:=by simpa using t
   rw[LU] at ht;have e:(flat ev d)[j]?=some (flatK ev 2 d.toArray)[j]!:=by
    grind [yw]
   grind [World.frozen?,World.cell?]
  rw[hlen];refine(AnyQ.slices_SortFunc Tryz.sortRg 2 Qa1 Tryz.sizeOf267 ev CR (λx=>yv x.r) cf swo 173 #[] B 0 cap d.toArray w F (Qa0 B 0 d.toArray.size w) hH (CP E) (by simp at hl ⊢;omega)).mono ?_;rintro e o ⟨rfl,c,n,os,J,A,rfl⟩;obtain⟨z,K,L⟩:=J;simp only[Zb5] at*
  have D:c.toList.Perm d:=by
   have N:c.extract 0 d.length=c:=by rw[<-z];simp
   grind
  have m:(c.toList.map C3.r).length=(d.map C3.r).length:=by rw[Za2,Za2,D.length_eq]
  have q:(flatK ev 2 c).toList=flat er (c.toList.map C3.r):=by rw[yw,LU]
  have f:flatK ev 2 c=(flat er (c.toList.map C3.r)).toArray:=by rw[<-q]
  refine⟨trivial,c.toList.map C3.r,D.map _,?_,?_,?_⟩
  ·rw[List.pairwise_map,ZbD];intro i j hi t s;have G:i<c.size:=by simpa using hi
   have u:j<c.size:=by simpa using t
   have:=A i j (Zaj _) s ω;grind [vY]
  ·unfold zp j9;refine⟨by rw[nf jZ],.inr ⟨B,cap,_,by rw[m];simp,p,FV _ E,by rw[m];exact y,I,by simp[putCells,hs],?_⟩⟩;rw[f];have H:(flat er (c.toList.map C3.r)).length=(c.toList.map C3.r).length*2:=nf jZ _;grind [zq]
  ·refine⟨rfl,rfl,rfl,by simp[sortWorldK,putRowK],λk hk=>Jy _ k ω ω⟩
set_option maxHeartbeats 4000000 in
set_option maxRecDepth 100000 in
theorem WA (a:Option Addr) (l:List Rg) (cap:Nat) (w:World) (h:Rd er w a l l.length) (hl:l.length<=100000000):
  Calls Tryz.prog 142 #[.slice a l.length cap] w λe w'=>∃v s,e=.returned v/\s.Perm (l.flatMap dY)/\s.Pairwise (λa b=>a.1<=b.1)/\zp w.heap.size w' v (iG s)/\Below w.heap.size w w':=by
 have hm:=h.max
 have hle:=h.le
 unfold maxLen at hm
 have H:=Lib.hid h
 clear h
 go_enter Tryz.func142,Tryz.ntmps142
 go_wp2_with fail
 go_loopg [3,12] l.length (λg v i wr=>∃k:Nat,k<=l.length/\g=l.length-k/\i=.int .i64 k/\zp w.heap.size wr v ((l.take k).flatMap dY)/\Below w.heap.size w wr)
 case atStart=>exact⟨0,ω,rfl,rfl,j9.nil _ _ _ _ _,Below.refl _ _⟩
 case round=>
  obtain⟨k,hk,rfl,rfl,c,f⟩:=hrel
  have hs:=f.size
  have hlen:=fA dY 2 te (l.take k)
  have hlt2:(l.take k).length<=l.length:=by simp;omega
  by_cases A:k<l.length
  ·obtain⟨⟨x0,x1⟩,q⟩:∃x,l[k]?=some x:=⟨_,Zaf A⟩
   obtain⟨b,off,rfl,T,c0,c1⟩:=Rd.pair (H.out.kept f) q
   have HX:=Lib.hid q
   clear q
   go_wp2_with fail
   refine(Qmp x0 x1 _).mono ?_
   rintro e C ⟨v1,rfl,o1,b1⟩
   obtain⟨a1,E,rfl,d,z⟩:=o1.rd
   have hr2:=te (x0,x1)
   have G:zp w.heap.size C u3 ((l.take k).flatMap dY):=(c.alloc _).below b1 (Zah _)
   have lK:Below w.heap.size w C:=f.trans ((((Below.refl wr.heap.size wr).alloc (Zah _) _).mono hs).trans (b1.mono (by simp;omega)))
   have K:=lK.size
   have V:((l.take k).flatMap dY).length+(dY (x0,x1)).length<=1000000000:=ω
   clear o1 b1 z
   go_wp2_with (at_builtin;go_must (refine yu vX rfl rfl rfl rfl G d rfl jZ yv V ω K ?_);intro v2 w2 M g2)
   go_roundg (l.length-(k+1))
   case measure=>omega
   case rel=>exact⟨k+1,ω,rfl,by go_num,by rw[tT _ HX.out];exact M,Below.grow lK G g2 (Zah _) K⟩
  ·obtain rfl:k=l.length:=ω
   rw[ZaM] at c hlen
   have F:∀r∈l.flatMap dY,F9 r:=by
    grind [P_]
   have m:=Lib.hid F
   go_wp2_with fail
   refine(sort c (λr P=>⟨(m.out r P).1,by have:=m.out r P;unfold F9 at this;omega⟩) ω hs).mono ?_
   rintro e C ⟨rfl,s,D,I,o1,b1⟩
   have rB:s.length=(l.flatMap dY).length:=D.length_eq
   have hsl2:s.length<=200000000:=ω
   have lK:Below w.heap.size w C:=f.trans b1
   have HI:Hid (∀r∈s,F9 r):=Lib.hid λr P=>m.out r (D.mem_iff.1 P)
   have HP:=Lib.hid D
   have R:=Lib.hid I
   clear D I rB m F c f b1
   obtain⟨a1,E,rfl,d,z⟩:=o1.rd
   have U:=d.max
   have hle1:=d.le
   unfold maxLen at U
   have RD:=Lib.hid d
   clear d z o1
   go_wp2_with fail
   go_loopg [4,25] s.length (λg v i wr=>∃k:Nat,k<=s.length/\g=s.length-k/\i=.int .i64 k/\zp C.heap.size wr v (iG (s.take k))/\Below C.heap.size C wr)
   case atStart=>exact⟨0,ω,rfl,rfl,j9.nil _ _ _ _ _,Below.refl _ _⟩
   case round=>
    obtain⟨k,hk,rfl,rfl,c,f⟩:=hrel
    have B:=f.size
    have hlen:=w6 (s.take k)
    have htl:(s.take k).length<=s.length:=by simp;omega
    have o:∀p∈iG (s.take k),F9 p:=Mx λp D=>HI.out p (Zcg D)
    by_cases A:k<s.length
    ·obtain⟨⟨x0,x1⟩,q⟩:∃x,s[k]?=some x:=⟨_,Zaf A⟩
     have Z:F9 (x0,x1):=HI.out _ (ZaJ q)
     obtain⟨W,X,Y⟩:=Z
     simp only at W X Y
     obtain⟨b,off,rfl,T,c0,c1⟩:=Rd.pair (RD.out.kept f) q
     have he:=DO q
     have N:=Lib.hid he
     clear q he
     generalize iG (s.take k)=out at c hlen o N
     rcases Zcu out with rfl | ⟨L,p,rfl⟩
     ·obtain⟨ao,co,rfl,rdo,_⟩:=c.rd
      clear rdo
      have j:bV [] (x0,x1)=[]++[(x0,x1)]:=rfl
      have n:=Lib.hid j
      clear j o
      simp only[Zak] at*
      go_wp2_with fail
      go_quiet (fail)
      go_wp2_with (at_builtin;go_must (refine pD vX rfl rfl rfl rfl (by simp) ((c.alloc _).drewN _) (x0,x1) rfl jZ yv (by simp) ω (by simp;omega) ?_);intro v2 w2 M g2)
      go_roundg (s.length-(k+1))
      case measure=>omega
      case rel=>
       refine⟨k+1,ω,rfl,by go_num,?_,?_⟩
       ·rw[N.out,n.out];exact M
       ·exact od (pE (f.alloc B _) _) ((c.alloc _).drewN _) g2 (Zah _) (by simp;omega)
     ·rw[Zcv] at*
      have j:bV (L++[p]) (x0,x1)=if x0<=p.2+1 then L++[(p.1,max p.2 x1)] else L++[p]++[(x0,x1)]:=by simp[bV]
      have n:=Lib.hid j
      obtain⟨hp0,hp1,hp2⟩:=o p (by simp)
      obtain⟨g,co,rfl,S,hg,hlc,hcm⟩:=c.form (by simp)
      obtain⟨d0,d1,f0,f1⟩:=Wz c rfl (i:=L.length) (x:=p) (by simp)
      have Q:=Lib.hid c
      clear j o c
      simp only[Zab,Zae,Zak] at*
      cases O:decide (x0<=p.2+1)
      ·have J:p.2+1<x0:=by simpa using O
       clear O
       go_wp2_with fail
       go_quiet (fail)
       go_wp2_with (at_builtin;go_must (refine pD vX rfl rfl rfl rfl (by simp) ((Q.out.alloc _).drewN _) (x0,x1) rfl jZ yv (by simp;omega) ω (by simp;omega) ?_);intro v2 w2 M g2)
       go_roundg (s.length-(k+1))
       case measure=>omega
       case rel=>
        refine⟨k+1,ω,rfl,by go_num,?_,?_⟩
        ·rw[N.out,n.out,Zaa ω];exact M
        ·exact od (pE (f.alloc B _) _) ((Q.out.alloc _).drewN _) g2 (Zah _) (by simp;omega)
      ·have J:x0<=p.2+1:=by simpa using O
       clear O
       go_wp2_with fail
       go_quiet (fail)
       go_wp2_with fail
       go_region
       all_goals go_wp2_with fail
       go_roundg (s.length-(k+1))
       case measure=>omega
       case rel=>
        refine⟨k+1,ω,rfl,by go_num,?_,?_⟩
        ·rw[N.out,n.out,Zac J]
         have:=j9.store (t:=1) (y:=(p.1,max p.2 x1)) (u:=.int .i32 (max p.2 x1)) ((Q.out.alloc (.cells #[.int .i32 x0,.int .i32 x1] 267)).drewN (nq+1)) (by simp) jZ (i:=L.length) (x:=p) (by simp) ω rfl
         simpa using this
        ·exact(pE (f.alloc B _) _).setCell S _
    ·obtain rfl:k=s.length:=ω
     go_wp2_with fail
     go_ret
     refine⟨_,s,rfl,HP.out,R.out,?_,?_⟩
     ·rw[ZaM] at c
      exact c.mono lK.size
     ·exact lK.trans (f.mono lK.size)
end cls
set_option maxRecDepth 100000
set_option maxHeartbeats 4000000
namespace sx
noncomputable section
open Go Go.RowKit cls syn
def Qmq {M:Pm D} {x:Rg} (h:tg x):LR M (D.aX 6 x) (er x):=by
 obtain⟨h1,a,b,_⟩:=h;exact .cons (.int (cB.2 ⟨by show(-2147483648:Int)<=x.1;omega,by show x.1<=(2147483647:Int);omega⟩)) (.cons (.int (cB.2 ⟨by show(-2147483648:Int)<=x.2;omega,by show x.2<=(2147483647:Int);omega⟩)) .nil)
def avV (v:AV D.E):Value:=match v with
 | .int k n=>.int k n
 | _=>.nilIface
theorem LV:∀y:List Rg,sl.flat er y=(aM (D:=D) 6 y).map avV
 | []=>rfl
 | x::t=>by
  show er x++sl.flat er t=([AV.int .i32 x.1,AV.int .i32 x.2]++aM (D:=D) 6 t).map avV
  rw[LV t,ZcG];rfl
theorem Qmr {M:Pm D} {H:Hp D} {w:World} {y:List Rg} {v:Value} (h:VR M (.list 6 y) v) (f:ey M H w) (hl:y.length<=100000000):∃a cap,v=.slice a y.length cap/\sl.Rd er w a y y.length:=by
 have k:y.length<=maxLen:=by grind [maxLen]
 cases h with
 | list hs l n=>
  rename_i b o cap
  refine⟨_,_,rfl,⟨λh=>(nomatch h),Zah _,k,λg e m=>?_⟩⟩;cases e;refine⟨rfl,f.slt (hs 0 m 0 _ rfl),λj u hu=>?_⟩;rw[LV,Zbk,ZdM] at hu;obtain⟨v,d,rfl⟩:=hu;obtain⟨p,h1,i⟩:=rO jU f hs j v d;obtain⟨x,_,c⟩:=ZbG.1 (ZaJ d);have c:v=AV.int .i32 x.1\/v=AV.int .i32 x.2:=by simpa using(show v∈[AV.int .i32 x.1,AV.int .i32 x.2] from c)
  rcases c with rfl | rfl<;>(cases i;exact h1)
 | fh=>exact⟨_,_,rfl,⟨λ_=>⟨rfl,rfl⟩,Zah _,Zaj _,λg _ h=>absurd h (Nat.lt_irrefl 0)⟩⟩
theorem WB:Ok dc:=by
 refine⟨⟨Tryz.f142,_,by kernel_rfl,di (by kernel_rfl)⟩,λy u M A w B k _ R q=>?_⟩;obtain⟨v,rfl,I⟩:=xA B;obtain⟨a,cap,rfl,m⟩:=Qmr I k u;refine(WA a y cap w m u).mono λe p ⟨v,s,E,H,l,t,r⟩=>?_
 subst E;have j:=DQ H l;rw[Qd j] at t j;rcases t.2 with⟨rfl,h⟩ | ⟨g,cap,cur,rfl,C,L,h,F,hs,ht⟩
 ·have z:aL y=[]:=Zap h;exact q M _ p (by show VR M (.list 6 (aL y)) _;rw[z];exact .fh) (tq k r 0)
 ·have D:LR M (aM 6 (aL y)) (sl.flat er (aL y)):=by
   have:=KF (M:=M) (c:=6) (f:=λx=>x) (aX:=er) (xs:=aL y) λx J=>Qmq (j.1.1 x J)
   change LR M _ (((aL y).map λx:Rg=>x).flatMap er) at this;rw[List.map_id'] at this;exact this
  have d:∀i v,(aM 6 (aL y))[i]?=some v->∃n,p.cell? ⟨g,0+i,none⟩=some n/\VR M v n:=λi v e=>by
   obtain⟨n,h1,K⟩:=D.get e;grind [World.cell?]
  refine q _ _ p (VR.list (b:=g) (o:=0) (ck.add jU) (by have G:(aL y).length<=cap:=h;unfold maxLen at F;show(aL y).length<=_;omega) h) (YD k r (g:=g) (o:=0) C d 0)
end
end sx
namespace bld
open Go Go.RowKit
abbrev BT:TypeId:=281
abbrev self (b:Nat):Value:=.pointer (some ⟨b,0,none⟩)
theorem Qdm:∃j,Tryz.prog.info? BT=some j/\j.size=2:=by
 obtain⟨j,a,hs⟩:=ZdM.1 (show(Tryz.prog.info? BT).map (·.size)=some 2 by kernel_rfl);grind
set_option maxHeartbeats 2000000 in
set_option maxRecDepth 100000 in
theorem On (b:Nat) (w:World) (h0:w.cell? ⟨b,0,none⟩=some (self b)):
  Calls Tryz.prog 200 #[self b] w λe d=>e=.returned (.tuple #[])/\d=w:=by
 obtain⟨j,a,c⟩:=Qdm
 go_enter Tryz.func200,Tryz.ntmps200
 go_wp2
 rw[Lib.run_neq_ptr_same w _ Tryz.underlying279 a]
 go_wp2
 go_end0
 grind
set_option maxHeartbeats 2000000 in
set_option maxRecDepth 100000 in
theorem Jz (b:Nat) (w:World) (h0:w.cell? ⟨b,0,none⟩=some (.pointer none)) (a:w.shape? b=some (BT,2)) (d:w.frozen? ⟨b,0,none⟩=false):
  Calls Tryz.prog 200 #[self b] w λe g=>e=.returned (.tuple #[])/\g=w.setCell ⟨b,0,none⟩ (self b):=by
 obtain⟨j,c,f⟩:=Qdm
 go_enter Tryz.func200,Tryz.ntmps200
 go_wp2
 rw[Lib.run_to_unsafe w ⟨b,0,none⟩ Tryz.underlying279 Tryz.underlying302 c ω a (Nat.zero_lt_succ 1)]
 simp only[Result.andThen]
 rw[Oper.upon_value]
 go_wp2
 rw[run_callFunc_extern Tryz.func211 (by kernel_rfl) (by kernel_rfl) (by kernel_rfl) (e:=Extern.AbiNoEscape.same) (by kernel_rfl)]
 rw[Lib.run_noEscape]
 simp only[Result.andThen]
 rw[Oper.upon_value]
 go_wp2
 rw[Lib.run_from_unsafe w ⟨b,0,none⟩ Tryz.underlying302 Tryz.underlying279 c a (by kernel_rfl)]
 simp only[Result.andThen]
 rw[Oper.upon_value]
 go_wp2
 go_end0
 grind
section
variable {P:Program}
def liesAt_bytes {e:TypeId} (b:P.cellsOf e=1) (count o n:Nat) (c:o+n<=count):liesAt P P.depth e count o e n:=by
 have a:P.depth=(2*(P.types.size+Made.depth)+1)+1:=rfl;rw[a];simp only[liesAt,ZbM];left;rw[a];simp[rowAt,b,c,sameLayout,Nat.mod_one]
theorem tU (w:World) (pt it ty e:TypeId) (hp:P.underlying pt=some (.pointer e)) (hc:P.cellsOf e=1) (g o cells:Nat) (hsh:w.shape? g=some (e,cells)) (l:List UInt8) (h0:l≠[]) (hn:o+l.length<=cells) (h63:l.length<=9223372036854775807)
  (hcell:∀j x,l[j]?=some x->w.cell? ((⟨g,o,none⟩:Addr).add j)=some (.int .u8 x.toNat)):
  (Builtin.unsafeString_ #[pt,it] ty #[.pointer (some ⟨g,o,none⟩),.int .i64 l.length]).run P w=.ok (.string ⟨l.toArray⟩) (w.freeze ⟨g,o,none⟩ l.length):=by
 have hl:l.length≠0:=by grind
 have hlb:=Lib.run_loadBytes (P:=P) w l ⟨g,o,none⟩ .empty hcell;have hlies:=liesAt_bytes (P:=P) hc (cells / P.cellsOf e) o l.length (by grind);have h63':¬(9223372036854775807:Int)<(l.length:Int):=ω;have hdef:Builtin.unsafeString_ #[pt,it] ty #[.pointer (some ⟨g,o,none⟩),.int .i64 l.length]=
   (do
    let n <-asInt (.int .i64 l.length)
    if n<0 then runtimePanic (.error "unsafe.String: len out of range")
    if n>IntKind.i64.max then unsupported (.unsafePointer "String: a length above the largest int")
    if n=0 then pure (.string .empty)
    else if <-variablesAt ⟨g,o,none⟩ (<-elemOf pt) n.toNat then do
     let s <-loadBytes ⟨g,o,none⟩ .empty n.toNat
     freeze ⟨g,o,none⟩ n.toNat
     pure (.string s)
    else unsupported (.unsafePointer "String: not so many bytes at ptr")):=rfl
 rw[hdef];have hmax:IntKind.i64.max=9223372036854775807:=rfl;have hneg:¬(l.length:Int)<0:=ω;simp[asInt,asIntOf,hmax,h63',hneg,hl,variablesAt,hsh,elemOf,Zza hp,hlies,hlb]
end
set_option maxHeartbeats 1000000 in
set_option maxRecDepth 100000 in
theorem Que (b g o cap:Nat) (p:Value) (l:List UInt8) (C:Array Value) (i c:Nat×Nat) (w:World) (h0:l≠[]) (f:w.heap[b]?=some (.cells #[p,.slice (some ⟨g,o,none⟩) l.length cap] BT i))
  (n:w.heap[g]?=some (.cells C 5 c)) (r:o+l.length<=C.size) (t:l.length<=cap) (d:l.length<=9223372036854775807)
  (a:∀j x,l[j]?=some x->w.cell? ((⟨g,o,none⟩:Addr).add j)=some (.int .u8 x.toNat)):
  Calls Tryz.prog 192 #[self b] w λe s=>e=.returned (.string ⟨l.toArray⟩)/\s=w.drew.freeze ⟨g,o,none⟩ l.length:=by
 have q:l.length≠0:=by grind
 have c1:w.drew.cell? ⟨b,1,none⟩=some (.slice (some ⟨g,o,none⟩) l.length cap):=by
  have:w.drew.heap[b]?=some (.cells #[p,.slice (some ⟨g,o,none⟩) l.length cap] BT i):=f
  rw[Lib.cell_of_heap this];rfl
 have k:(Builtin.unsafeSliceData_ #[30] 290 #[.slice (some ⟨g,o,none⟩) l.length cap]).run Tryz.prog w.drew=.ok (.pointer (some ⟨g,o,none⟩)) w.drew:=
  Lib.run_unsafeSliceData_row _ _ _ _ _ _ ω
 have m:(Builtin.unsafeString_ #[290,3] 9 #[.pointer (some ⟨g,o,none⟩),.int .i64 l.length]).run Tryz.prog w.drew=.ok (.string ⟨l.toArray⟩) (w.drew.freeze ⟨g,o,none⟩ l.length):=by
  refine tU w.drew 290 3 9 5 Tryz.underlying290 (by kernel_rfl) g o C.size (by have h:w.drew.heap[g]?=some (.cells C 5 c):=n;simp[World.shape?,h]) l h0 r d a
 have mixed:Tryz.prog.follows .mixedOrders=true:=by kernel_rfl
 go_enter Tryz.func192,Tryz.ntmps192
 go_wp2
 go_region_o
 all_goals (go_wp2;go_ret;exact⟨rfl,rfl⟩)
set_option maxHeartbeats 2000000 in
set_option maxRecDepth 100000 in
theorem Quf (b:Nat) (p:Value) (c:Nat×Nat) (w:World) (a:w.heap[b]?=some (.cells #[p,.slice none 0 0] BT c)):
  Calls Tryz.prog 192 #[self b] w λe g=>e=.returned (.string ⟨#[]⟩)/\g=w.drew:=by
 have f:∀(W:World) (q:Option Addr),(Builtin.unsafeString_ #[290,3] 9 #[.pointer q,.int .i64 0]).run Tryz.prog W=.ok (.string .empty) W:=λW q=>Lib.run_unsafeString_none W _ _ _ q
 have c1:w.drew.cell? ⟨b,1,none⟩=some (.slice none 0 0):=by
  have:w.drew.heap[b]?=some (.cells #[p,.slice none 0 0] BT c):=a
  rw[Lib.cell_of_heap this];rfl
 have d:(Builtin.unsafeSliceData_ #[30] 290 #[.slice none 0 0]).run Tryz.prog w.drew=.ok (.pointer none) w.drew:=rfl
 have mixed:Tryz.prog.follows .mixedOrders=true:=by kernel_rfl
 go_enter Tryz.func192,Tryz.ntmps192
 go_wp2
 go_region_o
 all_goals (go_wp2;go_ret;exact⟨rfl,rfl⟩)
end bld
set_option maxRecDepth 100000
set_option maxHeartbeats 4000000
namespace sx
noncomputable section
open Go Go.RowKit cls syn
def Qdn (y:Int):Prop:=let a:=([b8 y]:List UInt8);let b:=([UInt8.ofNat y.toNat]:List UInt8);Iv True/\fits (ab a) 1/\ab a=ab b/\a=b/\True
def Qdo (y:(List UInt8)×Int):Prop:=let a:=aZ y.1 [b8 y.2];Iv True/\aa [ab y.1] (aa [y.1] (fits (ab a) 1/\ab a=ab (y.1++[UInt8.ofNat y.2.toNat])/\a=(y.1++[UInt8.ofNat y.2.toNat])/\True))
def Qms (y:Unit):Prop:=
 (0:Int)=(0:Int)/\
 True
def Qdp (y:List UInt8):Prop:=aa [ab y,ab y] (aa [y] (True))
def WC (y:(List (Int×Int))×bO):Prop:=let g:=y.1.length;let f:=ab y.1;let s:=gv y.1 (nn y.2);let t:=gI y.1 (nn y.2);let u:=((b6 y.1 (g-y.2.i.toNat) y.2.i.toNat []).1:Int);let D:=λp:Prop=>aa [y.2.i] p;let w:=λp:Prop=>aa [y.1] (aa [bC y.1] p);let B:=λp:Prop=>aa [y.2.i] (aa [y.1] (aa [bC y.1] p));let C:=λp:Prop=>aa [y.2.opens,y.2.ae,y.2.err,y.2.wh] p;let v:Prop:=(y.2.opens=((y.2.opens.toNat:Nat):Int)/\y.2.ae=((y.2.ae.toNat:Nat):Int)/\aa [y.2.err,y.2.wh] (True));∃z:Unit,(∃A:Nat,B (y.2.i=(A:Int)/\C ((Iv (tw y A [])))))/\(∀x:Nat,let m:=an .i64 (x:Int) 1;let d:=(gt (0,0) y.1 (x:Int).toNat).1;let j:=wc .u8 d;let n:=([UInt8.ofNat j.toNat]:List UInt8);let r:=λp:Prop=>aa [y.1] (aa [(x:Int),d] p);let k:Prop:=(Iv True/\aa [(x:Int),(x:Int)] ([]=t/\ax y.2.i (x:Int)=s/\w ((x:Int)=u/\v)));let o:Prop:=(aC 0 (x:Int)/\ax (x:Int) f/\Iv (G9 j)/\aa [j] (aa [y.1] (aa [(x:Int),d] (((∃b:Nat,y.2.i=y.2.i/\False)\/(∃b:Nat×(List UInt8),y.2.i=y.2.i/\ab n=ab b.2/\n=b.2/\y.1=y.1/\bC y.1=bC y.1/\m=(b.1:Int)/\y.2.opens=y.2.opens/\y.2.ae=y.2.ae/\y.2.err=y.2.err/\y.2.wh=y.2.wh/\Iv ((tw y b.1 b.2/\Ne b.2 [])/\(g-b.1)<(g-x))))))));(Iv (tw y x []))->ag (ax (x:Int) f) (aC 0 (x:Int)/\ax (x:Int) f/\ag (aC 48 d) (aC 0 (x:Int)/\ax (x:Int) f/\aa [(x:Int)] (aa [y.1,y.1] (aa [(x:Int),d] (aa [y.1] (aa [(x:Int),d] (ag (aC d 57) (aC 0 (x:Int)/\ax (x:Int) f/\ag (ax 48 d) (r (o)) (Iv True/\r (ag (ax 0 0) (o) (((∃b:Nat,y.2.i=y.2.i/\y.1=y.1/\bC y.1=bC y.1/\m=(b:Int)/\y.2.opens=y.2.opens/\y.2.ae=y.2.ae/\y.2.err=y.2.err/\y.2.wh=y.2.wh/\Iv (tw y b []/\(g-b)<(g-x)))\/(∃b:Nat×(List UInt8),y.2.i=y.2.i/\False)))))) (k))))))) (aa [(x:Int)] (aa [y.1,y.1] (aa [(x:Int),d] (k))))) (aa [(x:Int)] (aa [y.1] (k))))/\(∀x:Nat×(List UInt8),let e:=ab x.2;let a:=(x.1:Int);let c:=(gt (0,0) y.1 a.toNat).1;let h:=wc .u8 c;let l:Prop:=(Iv (Ne x.2 [])/\aa [e] (aa [x.2] (aa [a,a] (x.2=t/\ax y.2.i a=s/\w (a=u/\v)))));let q:Prop:=(aC 0 a/\ax a f/\Iv (x.2.length<=1000000/\G9 h)/\aa [h,e] (aa [x.2] (aa [y.1] (aa [a,c] (((∃b:Nat,y.2.i=y.2.i/\False)\/(∃b:Nat×(List UInt8),y.2.i=y.2.i/\ab (x.2++[UInt8.ofNat h.toNat])=ab b.2/\(x.2++[UInt8.ofNat h.toNat])=b.2/\y.1=y.1/\bC y.1=bC y.1/\an .i64 a 1=(b.1:Int)/\y.2.opens=y.2.opens/\y.2.ae=y.2.ae/\y.2.err=y.2.err/\y.2.wh=y.2.wh/\Iv ((tw y b.1 b.2/\Ne b.2 [])/\(g-b.1)<(g-x.1)))))))));(Iv (tw y x.1 x.2/\Ne x.2 []))->ag (ax a f) (aC 0 a/\ax a f/\ag (aC 48 c) (aC 0 a/\ax a f/\aa [a] (aa [y.1,y.1] (aa [a,c] (aa [y.1] (aa [a,c] (ag (aC c 57) (aC 0 a/\ax a f/\ag (ax 48 c) (aa [y.1] (aa [a,c] (q))) (Iv True/\aa [e] (aa [x.2] (aa [y.1] (aa [a,c] (ag (ax 0 e) (q) (((∃b:Nat,y.2.i=y.2.i/\False)\/(∃b:Nat×(List UInt8),y.2.i=y.2.i/\e=ab b.2/\x.2=b.2/\y.1=y.1/\bC y.1=bC y.1/\an .i64 a 1=(b.1:Int)/\y.2.opens=y.2.opens/\y.2.ae=y.2.ae/\y.2.err=y.2.err/\y.2.wh=y.2.wh/\Iv ((tw y b.1 b.2/\Ne b.2 [])/\(g-b.1)<(g-x.1))))))))))) (l))))))) (aa [a] (aa [y.1,y.1] (aa [a,c] (l))))) (aa [a] (aa [y.1] (l))))
end
end sx
end Go.Proofs.YtadfknojfbmjgaaGreat
