/- PointAny: a part of the proof. -/
import Derived.Test.YtiiiphndmbabcaaGreatC8
import Derived.Test.YtiiiphndmbabcaaGreatProg
import Derived.WalkKit
import Derived.Test.YtiiiphndmbabcaaGreatC3
import Derived.Lib.Hide
import Derived.Deep.LoopGhost
import Derived.Deep.DeepCutAuto
import Derived.Laws.AppendOwnNone
import Derived.BigQuiet
import Derived.Deep.QuietTactic
import Derived.Test.YtiiiphndmbabcaaGreatC5
import Derived.Lib.MinMax
import Derived.Deep.DeepMust
import Derived.RegionTactic
import Derived.Laws.ResultCell
set_option linter.all false
namespace Go.Proofs.YtiiiphndmbabcaaGreat
open Go.Proofs.Tryz
set_option maxRecDepth 100000
set_option maxHeartbeats 4000000
namespace sx
noncomputable section
open Go Go.RowKit cls syn
def XK (s:Dg) (N:Int):Prop:=0<=s.d.n/\s.d.n<=3/\(HG s.d=[]\/ji (HG s.d))/\Y4 s.v N
def Qkv (f:SFm) (y:ώ):Prop:=XK y.aH (16*y.pos)/\(sfJ f->XK y.aZ (16*y.pos)/\0<y.aZ.v.L.length)/\(f=.o->XK y.a8 (16*y.pos)/\y.aS.length<=1000/\0<=y.size/\y.size<=500)/\0<=y.bN/\y.bN<=y.pos/\(y.ch=false->y.pos-y.bN<=200)
def XK.le {s:Dg} {N M:Int} (h:XK s N) (a:N<=M):XK s M:=⟨h.1,h.2.1,h.2.2.1,h.2.2.2.1,h.2.2.2.2.1,h.2.2.2.2.2.1,Int.le_trans h.2.2.2.2.2.2 a⟩
def XK.P {s:Dg} {N:Int} (h:XK s N) (a:N<=900000000000):Ue s:=⟨⟨h.1,h.2.1,h.2.2.2.1,h.2.2.2.2.1,h.2.2.2.2.2.1,by have:=h.2.2.2.2.2.2;omega⟩,h.2.2.1⟩
theorem Qkv.Q {f:SFm} {y:ώ} (h:Qkv f y) (c:y.pos<=100000000):Qr5 f y:=by
 have⟨a,a2,a3,a4,a5,b⟩:=h;refine⟨⟨a.P ω,λk=>?_,λk=>?_⟩,a4,a5,c,b⟩
 ·have d:=(a2 k).1.P ω;grind [VD]
 ·exact⟨(a3 k).1.P ω,(a3 k).2⟩
def bc (b:By) (k:Nat):Int:=((b.getD k 0).toNat:Int)
def jnR (y:j8):Bool:=!seq y.s.c []
structure VE where
 pos:Int
 bN:Int
 ch:Bool
 jH:Bool
 bj:Int
 size:Int
 aS:List dd
def Qkw (y:VE) (a8 aH aZ:List (AV D.E)):AV D.E:=.agg ([.int .i64 y.pos,.int .i64 y.bN,.bool y.ch,.bool y.jH,.int .i64 y.bj,.int .i64 y.size,.list 2 y.aS]++a8++aH++aZ)
def scQ (s:Dg):Prop:=dcP s.d/\lsP s.v.L
structure Qwg where
 ru:j8
 st:VE
 a8:Dg
 aH:Dg
 aZ:Dg
def oz (t:aX):List Int:=[t.c0,t.c1,t.c2,t.c3,t.c4,t.c5,t.c6,t.c7,t.c8,t.c9]
def fq (t:aX) (m:Int):Bool:=(oz t).all λx=>decide (-1<=x)&&decide (x<=m)
def VF:bh D:=bO 207 (aX×Int) (λa _=>match a with
 | [c,m]=>az (asAgg c) λcs=>match cs with
  | [a0,b,a2,a3,a4,a5,d,e,f,a9]=>aP (cT a0) λ_ a0=>aP (cT b) λ_ b=>aP (cT a2) λ_ a2=>aP (cT a3) λ_ a3=>aP (cT a4) λ_ a4=>aP (cT a5) λ_ a5=>aP (cT d) λ_ d=>aP (cT e) λ_ e=>aP (cT f) λ_ f=>aP (cT a9) λ_ a9=>aP (cT m) λ_ m=>.ret (⟨0,a0,b,a2,a3,a4,a5,d,e,f,a9⟩,m)
  | _=>.fail
 | _=>.fail) (λ_=>True) (λy=>[.agg [Qvo y.1.c0,Qvo y.1.c1,Qvo y.1.c2,Qvo y.1.c3,Qvo y.1.c4,Qvo y.1.c5,Qvo y.1.c6,Qvo y.1.c7,Qvo y.1.c8,Qvo y.1.c9],Qvo y.2]) λy=>.bool (fq y.1 y.2)
def LC (af:List aW) (a:List Bool):Nat->(Int->Bool)->Int->Bool
 | 0,F=>F
 | n+1,F=>if a.getD n false/\(af.getD n ⟨0,0,0,[]⟩).op=1 then λk=>if k=(n:Int)+1 then true else LC af a n F k else LC af a n F
def XL (m:Int):List aX->(Int->Bool)->Bool
 | [],_=>true
 | t::l,F=>F t.pc&&fq t m&&XL m l λk=>if k=t.pc then false else F k
structure zO where
 p:iC
 r:Int
 l:dd
 m:Int
def Ϗ (y:zO):Int:=y.p.av.getD y.r.toNat 0
def vC (y:zO):Bool:=XL y.m y.l.aJ (LC y.p.af (lJ y.p.af (Ϗ y)) y.p.af.length λk=>if k=Ϗ y then true else false)
def wtP (y:zO):Prop:=ND (y.p.af,Ϗ y)/\0<=y.r/\y.r<y.p.av.length/\y.l.aJ.length<=1000000
def VG:bh D:=bO 208 zO (λa s=>match a with
 | [p,r,l,m]=>az (Hk p s) λp=>aP (cT r) λ_ r=>az (asAgg l) λcs=>az (uW D 2 cs) λl=>aP (cT m) λ_ m=>.ret ⟨p,r,(l:dd),m⟩
 | _=>.fail) wtP (λy=>[Hj y.p,Qvo y.r,.agg (D.a_ 2 y.l),Qvo y.m]) λy=>.bool (vC y)
def LD (y:aX×Int):Prop:=aj (aw y.1.c0 (-1)) (false=fq y.1 y.2/\True) (aj (aw y.2 y.1.c0) (false=fq y.1 y.2/\True) (aj (aw y.1.c1 (-1)) (false=fq y.1 y.2/\True) (aj (aw y.2 y.1.c1) (false=fq y.1 y.2/\True) (aj (aw y.1.c2 (-1)) (false=fq y.1 y.2/\True) (aj (aw y.2 y.1.c2) (false=fq y.1 y.2/\True) (aj (aw y.1.c3 (-1)) (false=fq y.1 y.2/\True) (aj (aw y.2 y.1.c3) (false=fq y.1 y.2/\True) (aj (aw y.1.c4 (-1)) (false=fq y.1 y.2/\True) (aj (aw y.2 y.1.c4) (false=fq y.1 y.2/\True) (aj (aw y.1.c5 (-1)) (false=fq y.1 y.2/\True) (aj (aw y.2 y.1.c5) (false=fq y.1 y.2/\True) (aj (aw y.1.c6 (-1)) (false=fq y.1 y.2/\True) (aj (aw y.2 y.1.c6) (false=fq y.1 y.2/\True) (aj (aw y.1.c7 (-1)) (false=fq y.1 y.2/\True) (aj (aw y.2 y.1.c7) (false=fq y.1 y.2/\True) (aj (aw y.1.c8 (-1)) (false=fq y.1 y.2/\True) (aj (aw y.2 y.1.c8) (false=fq y.1 y.2/\True) (aj (aw y.1.c9 (-1)) (false=fq y.1 y.2/\True) (aj (aw y.2 y.1.c9) (false=fq y.1 y.2/\True) (true=fq y.1 y.2/\True))))))))))))))))))))
def VH (t:aX) (m:Int):Prop:=(-1<=t.c0/\t.c0<=m)/\(-1<=t.c1/\t.c1<=m)/\(-1<=t.c2/\t.c2<=m)/\(-1<=t.c3/\t.c3<=m)/\(-1<=t.c4/\t.c4<=m)/\(-1<=t.c5/\t.c5<=m)/\(-1<=t.c6/\t.c6<=m)/\(-1<=t.c7/\t.c7<=m)/\(-1<=t.c8/\t.c8<=m)/\(-1<=t.c9/\t.c9<=m)
def Fu (t:aX) (m:Int):fq t m↔VH t m:=by simp[fq,VH,oz]
def Qkx (y:aX×Int):LD y:=by
 unfold LD;simp only[pd,Zai,dA,hU];have a:¬VH y.1 y.2->false=fq y.1 y.2:=λh=>(Bool.eq_false_iff.2 λe=>h ((Fu _ _).1 e)).symm
 have ht:VH y.1 y.2->true=fq y.1 y.2:=λh=>((Fu _ _).2 h).symm
 unfold VH at a ht
 repeat' first | apply And.intro | intro _
 all_goals first | exact a ω | exact ht ω
def QcI:Ok VF:=okZ (V:=LD) [] f207 (λ_=>⟨[],[],[],[],11,[]⟩) trivial λy _=>Qkx y
end
end sx
namespace sl
open Go.RowKit
variable {α:Type} {a_:α->List Value} {k:Nat}
theorem CR {w:World} {k:Nat} {o:Obj} (h:w.heap[k]?=some o):k<w.heap.size:=by
 grind
def flat (a_:α->List Value) (l:List α):List Value:=l.flatMap a_
theorem nj (hk:∀x,(a_ x).length=k) (l:List α):(flat a_ l).length=l.length*k:=by
 induction l with
 | nil=>simp[flat]
 | cons x t a=>
  grind [flat]
theorem jN (l m:List α):flat a_ (l++m)=flat a_ l++flat a_ m:=by simp[flat]
theorem yJ (hk:∀x,(a_ x).length=k) (l:List α) (i t:Nat) (x:α) (a:l[i]?=some x) (ht:t<k):(flat a_ l)[i*k+t]?=(a_ x)[t]?:=by
 induction l generalizing i with
 | nil=>simp at a
 | cons y m b=>
  have e:flat a_ (y::m)=a_ y++flat a_ m:=rfl;rcases i with _ | i
  ·grind
  ·grind
structure Rd (a_:α->List Value) (w:World) (a:Option Addr) (l:List α) (cap:Nat):Prop where
 none_:a=none->l=[]/\cap=0
 le:l.length<=cap
 max:cap<=maxLen
 at_:∀ad,a=some ad->0<cap->ad.spot=none/\ad.block<w.heap.size/\∀j u,(flat a_ l)[j]?=some u->w.cell? ⟨ad.block,ad.off+j,none⟩=some u
variable {l:List α} {B:Nat} {w:World} {a:Option Addr}
theorem Rd.nil (a_:α->List Value) (w:World):Rd a_ w none [] 0:=⟨λ_=>⟨rfl,rfl⟩,Zah _,ω,λ_ h _=>by cases h⟩
theorem Rd.cells {cap:Nat} (h:Rd a_ w a l cap) (hk:∀x,(a_ x).length=k) {i:Nat} {x:α} (j:l[i]?=some x):
  ∃b off,a=some ⟨b,off,none⟩/\b<w.heap.size/\∀t u,t<k->(a_ x)[t]?=some u->w.cell? ⟨b,off+(i*k+t),none⟩=some u:=by
 obtain⟨h1,f,g,c⟩:=h;rcases a with _ | ⟨b,off,sp⟩
 ·grind
 ·have hi:i<l.length:=by
   grind
  obtain⟨hs,d,e⟩:=c _ rfl ω;obtain rfl:sp=none:=hs;exact⟨b,off,rfl,d,λt u ht hu=>e _ _ (by grind [yJ])⟩
def Rd.below {f:World} (h:Rd a_ w a l B) {cap:Nat} (c:Below cap w f) (k:∀b,a=some b->0<B->b.block<cap):Rd a_ f a l B:=
 ⟨h.none_,h.le,h.max,λb e d=>by
  obtain⟨h1,g,i⟩:=h.at_ b e d;exact⟨h1,ZbB g c.size,λj u hu=>(c.cell (p:=⟨b.block,b.off+j,none⟩) (k b e d)).trans (i j u hu)⟩⟩
def Rd.kept {b:World} (h:Rd a_ w a l B) (d:Below w.heap.size w b):Rd a_ b a l B:=
 h.below d λc e f=>(h.at_ c e f).2.1
def j_ (a_:α->List Value) (k:Nat) (E:TypeId) (B:Nat) (w:World) (v:Value) (l:List α):Prop:=w.ownsRow B E k v l.length (flat a_ l)
theorem j_.rd {E:TypeId} {v:Value} (h:j_ a_ k E B w v l):∃a cap,v=.slice a l.length cap/\Rd a_ w a l cap/\∀b,a=some b->B<=b.block:=by
 rcases h.2 with⟨rfl,c⟩ | ⟨g,cap,a8,rfl,f,i,c,d,hs,ht⟩
 ·grind [Rd.nil]
 ·refine⟨some ⟨g,0,none⟩,cap,rfl,⟨λh=>(nomatch h),c,d,λb e _=>?_⟩,λb e=>(by grind)⟩;grind [World.cell?]
theorem getD_eq (h:B<l.length) (d:α):l[B]?=some (l.getD B d):=by
 grind
structure l_ (P:Program) (T E:TypeId) (k bytes:Nat):Prop where
 uV:P.underlying T=some (.slice E)
 ex:∃i z,P.info? E=some i/\i.zero=some z/\i.size=k/\i.bytes=bytes/\z.cells.size=k
 pos:0<k
variable {B a m X:Nat} {E c:TypeId} {w d:World} {v:Value} {l:List α} {Z:Program} {Y:Array Value} {W:Type} {V:Array Oper} {U:List Oper} {O:Exit->Act->World->Prop} {s x:Operand}
variable {N:List W}
def l_.mk' {z:Value} (h1:Z.underlying E=some (.slice c)) (bytes:(Z.info? c).map (λi=>(i.zero,i.size,i.bytes))=some (some z,B,a)) (b:z.cells.size=B) (T:0<B):l_ Z E c B a:=by
 obtain⟨i,hi,hz,hs,d⟩:=info_parts bytes;exact⟨h1,⟨i,z,hi,hz,hs,d,b⟩,T⟩
theorem j_.nil (a_:α->List Value) (k:Nat) (E:TypeId) (B:Nat) (w:World):j_ a_ k E B w (.slice none 0 0) []:=World.ownsRow_nil _ _ _ _
theorem j_.alloc (h:j_ a_ k E B w v l) (o:Obj):j_ a_ k E B (w.alloc o) v l:=World.ownsRow.alloc h o
def j_.drewN (h:j_ a_ k E B w v l) (n:Nat):j_ a_ k E B (w.drewN n) v l:=h
theorem j_.below (h:j_ a_ k E B w v l) (i:Below a w d) (f:w.heap.size<=a):j_ a_ k E B d v l:=by
 refine⟨h.1,?_⟩;rcases h.2 with b | ⟨g,cap,a8,h1,b,c,e⟩
 ·grind
 ·exact .inr ⟨g,cap,a8,h1,b,(i.block g (ZbB (CR c) f)).trans c,e⟩
def j_.lt (h:j_ a_ k E B w v l):∀k,v.ownBlock=some k->B<=k/\k<w.heap.size:=World.ownsRow.lt h
theorem j_.mono (h:j_ a_ k E B w v l) (d:a<=B):j_ a_ k E a w v l:=by
 refine⟨h.1,?_⟩;rcases h.2 with b | ⟨g,cap,a8,h1,b,c⟩
 ·grind
 ·exact .inr ⟨g,cap,a8,h1,Zav d b,c⟩
def Below.grow {b:World} (w0:Below a w d) (h:j_ a_ k E B d v l) (e:d.grownBy b v.ownBlock) (c:a<=B) (hs:a<=d.heap.size):Below a w b:=
 w0.grown e hs λk hk=>Zav c (h.lt k hk).1
theorem Rd.built {cs:Array Value} (l:List α) (n:Nat) (d:l.length=n) (a:cs.toList=flat a_ l) (c:n<=4096):Rd a_ (w.alloc (.cells cs E)) (some ⟨w.heap.size,0,none⟩) l n:=
 ⟨λh=>(nomatch h),ω,by grind [maxLen],λb e _=>by
  cases e;refine⟨rfl,by simp,λj u hu=>?_⟩;rw[<-a] at hu;simp;simpa using hu⟩
theorem yK {o:Oper} {bytes:Act} {p:Option Addr} {f:List α}
  (G:l_ Z E c k B) (g:o.guard=none) (C:o.op=.call { callee:=.builtin .append,args:=#[s,x],argTypes:=#[E,E] })
  (hs:bytes.eval s=v) (D:bytes.eval x=.slice p m X) (e:j_ a_ k c a w v l) (d:Rd a_ w p f X) (A:m=f.length) (hk:∀x,(a_ x).length=k) (h1:∀x,∀u∈a_ x,u.oneCell')
  (n:l.length+f.length<=1000000000) (Pc:B<=65536) (H:a<=w.heap.size)
  (h:∀F t,j_ a_ k c a t F (l++f)->w.grownBy t v.ownBlock->wpList Z V O U (bytes.put o.dst F) t):wpList Z V O (o::U) bytes w:=by
 obtain⟨hu,⟨i,z,hi,hz,di,q,hzc⟩,J⟩:=G;rcases p with _ | ⟨b,off,sp⟩
 ·obtain⟨rfl,rfl⟩:=d.none_ rfl;subst A;refine wpList_append_own_none g s x E C a c i k hu hi v l.length _ hs e D ?_;grind [World.grownBy.refl]
 ·have r:∀j u,(flat a_ f)[j]?=some u->w.cell? ((⟨b,off,sp⟩:Addr).add j)=some u:=λj u M=>by
   have hle:=d.le;have I:0<f.length:=by
    grind [flat]
   obtain⟨K,_,L⟩:=d.at_ _ rfl ω;grind [Addr.add_lit]
  have hmul:(l.length+f.length)*B<=1000000000*65536:=Zci n Pc;refine wpList_append_own w g s x E C a c i z k B hu hi hz di q hzc J v l.length _ hs e ⟨b,off,sp⟩ m X (flat a_ f) D (by rw[nj hk,A]) r (λu hu=>?_) (by grind [maxLen]) (by grind) H ?_
  ·obtain⟨y,_,N⟩:=ZbG.1 hu;grind
  ·grind [j_,jN]
theorem pK {o:Oper} {bytes:Act} {e:TypeId}
  (i:l_ Z E c k B) (T:o.guard=none) (n:o.op=.call { callee:=.builtin .append,args:=#[s,x],argTypes:=#[E,E] })
  (hs:bytes.eval s=v) (p:bytes.eval x=.slice (some ⟨m,0,none⟩) 1 1) (j:m=w.heap.size) (b:j_ a_ k c a w v l) (y:α) (r:Y.toList=a_ y) (hk:∀x,(a_ x).length=k) (h1:∀x,∀u∈a_ x,u.oneCell')
  (f:l.length<1000000000) (Pc:B<=65536) (q:a<=w.heap.size)
  (h:∀g d,j_ a_ k c a d g (l++[y])->(w.alloc (.cells Y e)).grownBy d v.ownBlock->wpList Z V O U (bytes.put o.dst g) d):wpList Z V O (o::U) bytes (w.alloc (.cells Y e)):=by
 subst j;exact yK i T n hs p (b.alloc _) (Rd.built [y] 1 rfl (by grind [flat]) ω) rfl hk h1 (by simp;omega) Pc (by simp;omega) h
def nY {b:World} (e:Below a w d) (h:j_ a_ k E B d v l) (f:(d.alloc (.cells Y c)).grownBy b v.ownBlock) (w0:a<=B) (hs:a<=d.heap.size):Below a w b:=
 Below.grow (e.alloc hs _) (h.alloc _) f w0 (by simp;omega)
theorem xt {x:W} (h:N[B]?=some x):B<N.length:=by
 grind
theorem VI (hk:∀x,(a_ x).length=k) (l:List α) (i t:Nat) (x y:α) (u:Value) (a:l[i]?=some x) (ht:t<k) (c:(a_ x).set t u=a_ y):(flat a_ l).set (i*k+t) u=flat a_ (l.set i y):=by
 induction l generalizing i with
 | nil=>simp at a
 | cons z m b=>
  have e:∀z,flat a_ (z::m)=a_ z++flat a_ m:=λ_=>rfl
  rcases i with _ | i
  ·grind
  ·simp only[Zcm] at a;rw[Zdd,e,ZbY _ _ (by grind),hk,show(i+1)*k+t-k=i*k+t by grind,b i a];rfl
theorem j_.store (h:j_ a_ k E B w (.slice (some ⟨a,0,none⟩) m X) l) (g:m=l.length) (hk:∀x,(a_ x).length=k) {i t:Nat} {x y:α} {u:Value} (c:l[i]?=some x) (ht:t<k) (b:(a_ x).set t u=a_ y):
  j_ a_ k E B (w.setCell ⟨a,i*k+t,none⟩ u) (.slice (some ⟨a,0,none⟩) m X) (l.set i y):=by
 subst g;have:=(World.ownsRow.stored h (i*k+t) u).1;grind [VI,j_]
theorem j_.form (h:j_ a_ k E B w v l) (b:l≠[]):∃g cap,v=.slice (some ⟨g,0,none⟩) l.length cap/\B<=g/\g<w.heap.size/\l.length<=cap/\cap<=maxLen:=by
 rcases h.2 with⟨rfl,a⟩ | ⟨g,cap,a8,rfl,c,d,a,e,hs,ht⟩
 ·grind
 ·grind
theorem j_.cellAt (h:j_ a_ k E B w (.slice (some ⟨a,0,none⟩) m X) l) (b:m=l.length) (hk:∀x,(a_ x).length=k) {i t:Nat} {x:α} (c:l[i]?=some x) (ht:t<k) (hu:(a_ x)[t]?=some v):
  w.cell? ⟨a,i*k+t,none⟩=some v/\w.frozen? ⟨a,i*k+t,none⟩=false:=by
 subst b;have hi:=xt c;have g:i*k+t<l.length*k:=by
  have:(i+1)*k<=l.length*k:=Zbc k hi;grind
 refine⟨?_,World.ownsRow.frozenAt h _⟩;rw[World.ownsRow.cellAt h (i*k+t) g,<-hu];grind [yJ]
def pL (h:Below B w d) (n:Nat):Below B w (d.drewN n):=⟨h.os,h.tape,h.output,h.size,h.block⟩
theorem tU {β:Type} (f:W->List β) {p:W} (h:N[B]?=some p):(N.take (B+1)).flatMap f=(N.take B).flatMap f++f p:=by
 grind [List.take_add_one]
theorem fA {β:Type} (f:W->List β) (n:Nat) (h:∀x,(f x).length<=n) (l:List W):(l.flatMap f).length<=l.length*n:=by
 induction l with
 | nil=>simp
 | cons x t a=>simp only[Zbt,Zab,Zae];have:=h x;rw[ZaV];omega
variable {α:Type} {a_:α->List Value} {k:Nat}
variable {E Y g:TypeId} {B:Nat} {v:Value} {l:List α} {w:World}
def bV (w:World) (v a:Value):Prop:=a.ownBlock=v.ownBlock\/a.ownBlock=none\/∃k,a.ownBlock=some k/\w.heap.size<=k
theorem ϑ {P:Program} (w:World) {ty:TypeId} {bytes:Nat} {b off m c:Nat} (news:List Value)
  (I:l_ P E Y k B) (d:j_ a_ k Y bytes w v l) (hl:news.length=m*k) (C:∀j u,news[j]?=some u->w.cell? ⟨b,off+j,none⟩=some u) (h1:∀u∈news,u.oneCell')
  (t:l.length+m<=maxLen) (f:(l.length+m)*B<=140737488355328) (L:bytes<=w.heap.size):
  ∃q r,(Builtin.append_ #[E,E] ty #[v,.slice (some ⟨b,off,none⟩) m c]).run P w=.ok q r/\r.ownsRow bytes Y k q (l.length+m) (flat a_ l++news)/\w.grownBy r v.ownBlock/\bV w v q:=by
 obtain⟨hu,⟨i,z,hi,hz,di,o,hzc⟩,H⟩:=I;have n:∀j u,news[j]?=some u->w.cell? ((⟨b,off,none⟩:Addr).add j)=some u:=λj u h=>by grind [Addr.add_lit]
 obtain⟨q,r,s,J,K,_⟩:=run_append_own (P:=P) w bytes E ty Y i z k B hu hi hz di o hzc H v l.length _ d ⟨b,off,none⟩ m c news hl n h1 t f L;refine⟨q,r,s,J,K,?_⟩;rcases d.2 with⟨rfl,Q⟩ | ⟨g,cap,a8,rfl,M,O,R,N,x,D⟩
 ·have A:l=[]:=Zap Q;subst A;obtain⟨U,V,a,k2,_,_⟩:=run_append_own (P:=P) w w.heap.size E ty Y i z k B hu hi hz di o hzc H (.slice none 0 0) 0 [] (World.ownsRow_nil _ _ _ _) ⟨b,off,none⟩ m c news hl n h1 (by assumption) (by assumption) (Zah _);rw[s] at a;cases a;rcases k2.2 with⟨rfl,_⟩ | ⟨g2,F,G,rfl,y,_⟩
  ·exact .inr (.inl rfl)
  ·exact .inr (.inr ⟨g2,rfl,y⟩)
 ·by_cases e:l.length+m<=cap
  ·have p:l.length*i.size+news.length<=a8.size:=by rw[hl,x,di,<-ZbL];exact Zbc _ e
   have a:=run_append_room (P:=P) w E ty Y i hu hi g l.length cap a8 O ⟨b,off,none⟩ m c news (by grind) n h1 e p;rw[s] at a;cases a;exact .inl rfl
  ·have holds:∀j u,(flat a_ l)[j]?=some u->w.cell? ((⟨g,0,none⟩:Addr).add j)=some u:=World.ownsRow.cells d (g:=g) rfl;have S:l.length+m<=9223372036854775807:=by assumption
   have a:=run_append_grow (P:=P) w E ty Y i z hu hi hz ⟨g,0,none⟩ l.length cap (flat a_ l) (by rw[di];exact d.1) holds ⟨b,off,none⟩ m c news (by grind) n ω ω (growslice_fits ω (by grind));rw[s] at a;cases a;exact .inr (.inr ⟨_,rfl,Zah _⟩)
theorem CS {P:Program} {ops:Array Oper} {rest:List Oper} {o:Oper} {a:Act} {Q:Exit->Act->World->Prop} {T E:TypeId} {bytes:Nat} {s x:Operand} {cs:Array Value} {n:Nat}
  (r:l_ P T E k B) (i:o.guard=none) (F:o.op=.call { callee:=.builtin .append,args:=#[s,x],argTypes:=#[T,T] })
  (hs:a.eval s=v) (H:a.eval x=.slice (some ⟨n,0,none⟩) 1 1) (D:n=w.heap.size) (d:j_ a_ k E bytes w v l) (y:α) (I:cs.toList=a_ y) (hk:∀x,(a_ x).length=k) (h1:∀x,∀u∈a_ x,u.oneCell')
  (q:l.length<1000000000) (Pc:B<=65536) (M:bytes<=w.heap.size)
  (h:∀e f,j_ a_ k E bytes f e (l++[y])->(w.alloc (.cells cs g)).grownBy f v.ownBlock->bV w v e->wpList P ops Q rest (a.put o.dst e) f):wpList P ops Q (o::rest) a (w.alloc (.cells cs g)):=by
 subst D;have hmul:(l.length+1)*B<=1000000000*65536:=Zci ω Pc;have p:=Rd.built (w:=w) (E:=g) (cs:=cs) (a_:=a_) [y] 1 rfl (by simp[I,flat]) ω;obtain⟨_,_,C⟩:=p.at_ _ rfl ω;obtain⟨e,f,G,J,t,b⟩:=ϑ (P:=P) (ty:=o.type) (m:=1) (c:=1) (w.alloc (.cells cs g)) (flat a_ [y]) r (d.alloc _) (by rw[nj hk];rfl) C (λu hu=>by
  obtain⟨z,_,hz⟩:=ZbG.1 hu;exact h1 z u hz) (by grind [maxLen]) ω (by grind)
 refine wpList_plain i λK A=>?_
 unfold Oper.wp execOp;simp only[F,resolve,invoke,builtin,Zzd,Zzc,Zzb,List.map_toArray,Zbl,Zcj,hs,H,G];refine A _ _ (h e f ?_ t ?_)
 ·grind [j_,jN]
 ·rcases b with b | b | ⟨j,b,L⟩
  ·exact .inl b
  ·exact .inr (.inl b)
  ·exact .inr (.inr ⟨j,b,by grind⟩)
def iu (v u:Value):Prop:=∀k,v.ownBlock=some k->u.ownBlock≠some k
theorem j_.aO {a:World} {u:Value} (h:j_ a_ k E B w v l) (c:w.grownBy a u.ownBlock) (b:iu v u):j_ a_ k E B a v l:=by
 refine World.ownsRow.kept h c ?_;rcases d:v.ownBlock with _ | j
 ·grind
 ·refine .inr λe=>b j d e.symm
theorem iu.fresh {u c:Value} (d:iu v u) (h:j_ a_ k E B w v l) (a:bV w u c):iu v c:=by
 intro j b e;rcases a with a | a | ⟨k2,a,f⟩
 ·exact d j b (a▸e)
 ·grind
 ·have:=(h.lt j b).2;grind
end sl
namespace sx
open Go Go.RowKit cls syn sl
abbrev E8:={l:List Value // l.length=8/\∀u∈l,u.oneCell'=true}
def e8 (x:E8):List Value:=x.1
def IW (x:E8):(e8 x).length=8:=x.2.1
def Qfy (x:E8):∀u∈e8 x,u.oneCell':=x.2.2
def ϒ:l_ prog 219 221 8 96:=l_.mk' (z:=.agg #[.int .i64 0,.slice none 0 0,.int .i64 0,.int .i64 0,.bool false,.int .i64 0,.int .i64 0,.slice none 0 0]) Tryz.underlying219 (by kernel_rfl) rfl (by decide)
abbrev qH (w:World) (v:Value) (l:List E8):Prop:=j_ e8 8 221 0 w v l
def h_ (v:Value):List Nat:=match v.ownBlock with
 | some b=>[b]
 | none=>[]
mutual
def TA (M:Pm D) (w:World):ah->E8->List Nat->Prop
 | .mk op r mn mx lz cap nk ks,x,F=>∃(vr kv:Value) (l:List E8) (G:List Nat),x.1=[.int .i64 op,vr,.int .i64 mn,.int .i64 mx,.bool lz,.int .i64 cap,.int .i64 nk,kv]/\VR M (.list 6 r) vr/\(fK .i64 op&&fK .i64 mn&&fK .i64 mx&&fK .i64 cap&&fK .i64 nk)=true/\
  qH w kv l/\F=h_ kv++G/\KA M w ks l G
def KA (M:Pm D) (w:World):List ah->List E8->List Nat->Prop
 | [],l,F=>l=[]/\F=[]
 | t::ts,l,F=>∃(x:E8) (l':List E8) (F1 F2:List Nat),l=x::l'/\F=F1++F2/\TA M w t x F1/\KA M w ts l' F2
end
theorem nm {w a:World} {v:Value} {l:List E8} (h:qH w v l) (hk:∀b∈h_ v,b<w.heap.size->a.heap[b]?=w.heap[b]?):qH a v l:=by
 refine⟨h.1,?_⟩;rcases h.2 with c | ⟨g,cap,a8,rfl,c,d,e⟩
 ·grind
 ·grind [h_,Value.ownBlock]
mutual
theorem wj {M M':Pm D} {w w':World} (hM:Le M M'):∀(t:ah) (x:E8) (F:List Nat),TA M w t x F->(∀b∈F,b<w.heap.size->w'.heap[b]?=w.heap[b]?)->TA M' w' t x F
 | .mk op r mn mx lz cap nk ks,x,F,h,hk=>by
  rw[TA] at h ⊢
  obtain⟨vr,kv,l,G,h1,h2,h3,h4,rfl,h6⟩:=h
  exact⟨vr,kv,l,G,h1,h2.mono hM,h3,nm h4 λb hb=>hk b (Zay _ hb),rfl,qw hM ks l G h6 λb hb=>hk b (ZaC _ hb)⟩
theorem qw {M M':Pm D} {w w':World} (hM:Le M M'):∀(ts:List ah) (l:List E8) (F:List Nat),KA M w ts l F->(∀b∈F,b<w.heap.size->w'.heap[b]?=w.heap[b]?)->KA M' w' ts l F
 | [],l,F,h,_=>by rw[KA] at h ⊢;exact h
 | t::ts,l,F,h,hk=>by
  rw[KA] at h ⊢
  obtain⟨x,l',F1,F2,h1,rfl,h3,h4⟩:=h
  exact⟨x,l',F1,F2,h1,rfl,wj hM t x F1 h3 λb hb=>hk b (Zay _ hb),qw hM ts l' F2 h4 λb hb=>hk b (ZaC _ hb)⟩
end
variable {w:World} {M:Pm D} {v:Value} {b:Nat} {Z:TypeId} {a:List Nat} {Y:Array Value} {X:Program}
theorem IX:∀{a:List ah} {l:List E8} {F:List Nat},KA M w a l F->l.length=a.length
 | [],l,F,h=>by rw[KA] at h;rw[h.1];rfl
 | t::a,l,F,h=>by
  rw[KA] at h;obtain⟨x,e,c,d,rfl,_,_,b⟩:=h;simp[IX b]
theorem VJ {t:ah} {x:E8} (c:TA M w t x a):∀{b:List ah} {l:List E8} {F:List Nat},KA M w b l F->KA M w (b++[t]) (l++[x]) (F++a)
 | [],l,F,h=>by
  rw[KA] at h;obtain⟨rfl,rfl⟩:=h;exact⟨x,[],a,[],rfl,by simp,c,by rw[KA];exact⟨rfl,rfl⟩⟩
 | u::b,l,F,h=>by
  rw[KA] at h;obtain⟨y,i,d,e,rfl,rfl,f,g⟩:=h;rw[Za1,KA];exact⟨y,i++[x],d,e++a,rfl,by rw[ZaD],f,VJ c g⟩
theorem iT {fr:Nat×Nat} (a:w.heap[b]?=some (.cells Y Z fr)) (j:Nat):w.cell? ⟨b,j,none⟩=Y[j]?:=by simp[World.cell?,a]
theorem LF (a:w.heap[b]?=some (.cells Y Z (0,0))) (j:Nat):w.frozen? ⟨b,j,none⟩=false:=by simp[World.frozen?,a]
def sR (h:b=w.heap.size) (o:Obj):(w.alloc o).heap[b]?=some o:=by subst h;exact heap_alloc_new w o
def eA {k:IntKind} {n:Int} (h:VR M (.int k n) v):v=.int k n/\fK k n:=by cases h with | int h=>exact⟨rfl,h⟩
def nZ {b:Bool} (h:VR M (.bool b) v):v=.bool b:=by cases h;rfl
def Bn {c:List (D.E b)} (h:VR M (.list b c) v):∃a n k,v=.slice a n k:=by cases h<;>exact⟨_,_,_,rfl⟩
def yL {t:ah} {x:E8} (h:TA M w t x a):∃F n c b g d,x.1=[.int .i64 t.op,.slice F n c,.int .i64 t.mn,.int .i64 t.mx,.bool t.lz,.int .i64 t.cap,.int .i64 t.nk,.slice b g d]:=by
 cases t;rw[TA] at h;obtain⟨o,m,l,G,h1,e,i,f,j,k⟩:=h;obtain⟨_,_,_,rfl⟩:=Bn e;obtain⟨_,_,rfl,_⟩:=f.rd;exact⟨_,_,_,_,_,_,h1⟩
def VK {fn:Func} {p u:Tmp} (h:fn.results=#[.cell p Z,.tmp u]) (tmps:Array Value) {a:Addr} (b:tmps.getD p Go.undef=.pointer (some a)) (c:(loadVar Z a).run X w=.ok v w):(results fn tmps).run X w=.ok (.tuple #[v,tmps.getD u Go.undef]) w:=by
 rw[results_cell_tmp h,b];simp[asAddr,c]
def qy {fn:Func} {p:Tmp} (h:fn.results=#[.cell p Z]) (tmps:Array Value) {a:Addr} (c:tmps.getD p Go.undef=.pointer (some a)) (d:(loadVar Z a).run X w=.ok v w):(results fn tmps).run X w=.ok v w:=by
 have b:tmps[p]?.getD Go.undef=.pointer (some a):=by simpa using c
 simp[results,h,b,asAddr,d]
abbrev Fv (w:World) (b:Nat) (a c d v3 e v5 f g:Value):World:=(((((((w.setCell ⟨b,0,none⟩ a).setCell ⟨b,1,none⟩ c).setCell ⟨b,2,none⟩ d).setCell ⟨b,3,none⟩ v3).setCell ⟨b,4,none⟩ e).setCell ⟨b,5,none⟩ v5).setCell ⟨b,6,none⟩ f).setCell ⟨b,7,none⟩ g
variable {w:World} {b i:Nat} {v:Value} {N:Array Value} {M:TypeId} {a:Nat×Nat}
variable {k:Nat}
theorem heap_set (h:w.heap[b]?=some (.cells N M a)):(w.setCell ⟨b,i,none⟩ v).heap[b]?=some (.cells (N.setIfInBounds i v) M a):=by
 grind [World.setCell]
def ka (h:k≠b):(w.setCell ⟨b,i,none⟩ v).heap[k]?=w.heap[k]?:=Below.heap_setCell _ _ _ _ h
theorem Bo {v0 v1 v2 v3 v4 v5 v6 v7:Value} (h:w.heap[b]?=some (.cells N M a)) (hs:N.size=8):(Fv w b v0 v1 v2 v3 v4 v5 v6 v7).heap[b]?=some (.cells #[v0,v1,v2,v3,v4,v5,v6,v7] M a):=by
 unfold Fv;rw[heap_set (heap_set (heap_set (heap_set (heap_set (heap_set (heap_set (heap_set h)))))))];obtain⟨l⟩:=N;obtain⟨a0,l,rfl⟩:=ZaB (show l.length=7+1 from hs);obtain⟨c,l,rfl⟩:=ZaB (show l.length=6+1 by simpa using hs);obtain⟨a2,l,rfl⟩:=ZaB (show l.length=5+1 by simpa using hs);obtain⟨a3,l,rfl⟩:=ZaB (show l.length=4+1 by simpa using hs);obtain⟨a4,l,rfl⟩:=ZaB (show l.length=3+1 by simpa using hs);obtain⟨a5,l,rfl⟩:=ZaB (show l.length=2+1 by simpa using hs);obtain⟨d,l,rfl⟩:=ZaB (show l.length=1+1 by simpa using hs);obtain⟨e,l,rfl⟩:=ZaB (show l.length=0+1 by simpa using hs);simp_all
def yM {v0 v1 v2 v3 v4 v5 v6 v7:Value} (h:k≠b):(Fv w b v0 v1 v2 v3 v4 v5 v6 v7).heap[k]?=w.heap[k]?:=by
 unfold Fv;rw[ka h,ka h,ka h,ka h,ka h,ka h,ka h,ka h]
theorem lx {v0 v1 v2 v3 v4 v5 v6 v7:Value}:Below b w (Fv w b v0 v1 v2 v3 v4 v5 v6 v7):=by
 unfold Fv;have k:∀(W:World) (i:Nat) (v:Value),Below b w W->Below b w (W.setCell ⟨b,i,none⟩ v):=λW i v h=>h.setCell (Zah _) v
 grind [Below.refl]
def nodeAt {M:Pm D} {y:List Nd} (h:Rd M w b i (aV (D:=D) 7 y)) {x:Nd} (e:y[k]?=some x):
  ∃a,VR M (.list 6 x.r) a/\(fK .i64 x.op&&fK .i64 x.mn&&fK .i64 x.mx&&fK .i64 x.cap&&fK .i64 x.ae)/\
   w.cell? ⟨b,i+k*7,none⟩=some (.int .i64 x.op)/\w.cell? ⟨b,i+k*7+1,none⟩=some a/\w.cell? ⟨b,i+k*7+2,none⟩=some (.int .i64 x.mn)/\w.cell? ⟨b,i+k*7+3,none⟩=some (.int .i64 x.mx)/\
   w.cell? ⟨b,i+k*7+4,none⟩=some (.bool x.lz)/\w.cell? ⟨b,i+k*7+5,none⟩=some (.int .i64 x.cap)/\w.cell? ⟨b,i+k*7+6,none⟩=some (.int .i64 x.ae):=by
 obtain⟨hi,rfl⟩:=Zam.1 e;have o:=kr fL h hi;obtain⟨z,a0,f⟩:=o 0 _ rfl;obtain⟨v,c,b1⟩:=o 1 _ rfl;obtain⟨A,a2,g⟩:=o 2 _ rfl;obtain⟨v3,a3,j⟩:=o 3 _ rfl;obtain⟨B,a4,l⟩:=o 4 _ rfl;obtain⟨v5,a5,m⟩:=o 5 _ rfl;obtain⟨C,d,n⟩:=o 6 _ rfl;obtain⟨rfl,p⟩:=eA f;obtain⟨rfl,q⟩:=eA g;obtain⟨rfl,s⟩:=eA j;obtain rfl:=nZ l;obtain⟨rfl,t⟩:=eA m;obtain⟨rfl,u⟩:=eA n;exact⟨v,b1,by simp only[ZaW];exact⟨⟨⟨⟨p,q⟩,s⟩,t⟩,u⟩,a0,c,a2,a3,a4,a5,d⟩
def wk {l:List E8} (h:qH w v l):∀c∈h_ v,c<w.heap.size:=λc a=>by
 unfold h_ at a;split at a
 ·rename_i e
  rw[ZaI.1 a];exact(h.lt _ e).2
 ·cases a
mutual
theorem QcJ {M:Pm D} {w:World}:∀(t:ah) (x:E8) (F:List Nat),TA M w t x F->∀c∈F,c<w.heap.size
 | .mk op r mn mx lz cap nk ks,x,F,h=>by
  rw[TA] at h
  obtain⟨vr,kv,l,G,h1,h2,h3,h4,rfl,h6⟩:=h
  exact λc hc=>(Zax.1 hc).elim (wk h4 c) (VL ks l G h6 c)
theorem VL {M:Pm D} {w:World}:∀(ts:List ah) (l:List E8) (F:List Nat),KA M w ts l F->∀c∈F,c<w.heap.size
 | [],l,F,h=>by rw[KA] at h;rw[h.2];exact λc hc=>nomatch hc
 | t::ts,l,F,h=>by
  rw[KA] at h
  obtain⟨x,l',F1,F2,h1,rfl,h3,h4⟩:=h
  exact λc hc=>(Zax.1 hc).elim (QcJ t x F1 h3 c) (VL ts l' F2 h4 c)
end
def l4 (M:Pm D):Le M M:=⟨λ_ _ h=>h,λ_ _ _ h=>h⟩
def sS {v:Value} {c:Nat} (h:v.ownBlock=some c):c∈h_ v:=by unfold h_;rw[h];exact ZaI.2 rfl
theorem VM {M:Pm D} {wr k b:World} {n1:Nat} {g:Value} {l:List E8} {G:List Nat} {E:List ah} {C:ah} {r:E8} {n:List Nat} {B N:Obj} {a m o:Nat} {u:Value}
  (Q:qH wr g l) (v:KA M wr E l G) (x:(h_ g++G).Nodup) (t:∀c∈h_ g++G,n1+1<=c/\c<wr.heap.size) (di:n1+1<=wr.heap.size) (z:Below wr.heap.size wr k) (q:TA M k C r n) (K:n.Nodup) (s:∀c∈n,wr.heap.size<=c)
  (f:qH b (.slice (some ⟨a,0,none⟩) m o) (l++[r])) (A:((k.alloc B).alloc N).grownBy b g.ownBlock) (i:sl.bV (k.alloc B) g (.slice (some ⟨a,0,none⟩) m o)):
  qH (b.setCell ⟨n1,7,none⟩ u) (.slice (some ⟨a,0,none⟩) m o) (l++[r])/\KA M (b.setCell ⟨n1,7,none⟩ u) (E++[C]) (l++[r]) (G++n)/\(h_ (.slice (some ⟨a,0,none⟩) m o)++(G++n)).Nodup/\
   ∀c∈h_ (.slice (some ⟨a,0,none⟩) m o)++(G++n),n1+1<=c/\c<(b.setCell ⟨n1,7,none⟩ u).heap.size:=by
 have hs:=z.size;have y:=A.size;simp only[World.alloc,ZcH] at y;have L:(b.setCell ⟨n1,7,none⟩ u).heap.size=b.heap.size:=by simp[World.setCell]
 have h:h_ (.slice (some ⟨a,0,none⟩) m o)=[a]:=rfl;have I:n1+1<=a/\(a∈h_ g\/k.heap.size+1<=a):=by
  rcases i with i | i | ⟨j,i,P⟩
  ·have:a∈h_ g:=sS i.symm;simp_all
  ·cases i
  ·cases i;grind [World.alloc]
 have J:a<b.heap.size:=wk f a (by rw[h];simp);have O:=QcJ _ _ _ q;have d:∀c,n1+1<=c->c<k.heap.size->c ∉ h_ g->(b.setCell ⟨n1,7,none⟩ u).heap[c]?=k.heap[c]?:=λc h1 F H=>by
  rw[Below.heap_setCell _ _ _ _ (by show c≠n1;omega),A.block c (by simp only[World.alloc,ZcH];omega) (λe=>H (sS e.symm)),Below.heap_alloc _ _ _ (by simp only[World.alloc,ZcH];omega),Below.heap_alloc _ _ _ F]
 have w:=ZbR.1 x;refine⟨nm f λc p _=>Below.heap_setCell _ _ _ _ (by rw[h,ZaI] at p;show c≠n1;omega),VJ (wj (l4 M) _ _ _ q λc p hl=>d c (by have:=s c p;omega) hl λhk=>?_) (qw (l4 M) _ _ _ v λc p hl=>(d c (t c (ZaC _ p)).1 ω λhk=>w.2.2 c hk c p rfl).trans (z.block c hl)),?_,?_⟩
 ·grind
 ·rw[h,List.singleton_append,List.nodup_cons,ZbR];grind
 ·grind
set_option maxHeartbeats 4000000 in
theorem ϓ {M:Pm D} {y:List Nd} {b o cap:Nat} (hl:y.length<=1000000) (E:y.length<=cap):∀(n:Nat) (t:ah) (at_:Nat) (rest:List Nd) (w:World),(aD t).length<=n->ku t->y.drop at_=aD t++rest->Rd M w b o (aV (D:=D) 7 y)->b<w.heap.size->
  Calls prog 129 #[.slice (some ⟨b,o,none⟩) y.length cap,.int .i64 at_] w λe w'=>∃(x:E8) (F:List Nat),e=.returned (.tuple #[.agg x.1.toArray,.int .i64 ((at_+(aD t).length:Nat):Int)])/\TA M w' t x F/\F.Nodup/\(∀c∈F,w.heap.size<=c)/\Below w.heap.size w w':=by
 intro n
 induction n with
 | zero=>
  intro t at_ rest w h
  cases t
  grind [aD]
 | succ n ih=>
  intro t at_ rest w hn hw hd hR hb
  obtain⟨op,r,mn,mx,lz,cap,nk,a⟩:=t
  rw[aD] at hn hd
  rw[ku] at hw
  obtain⟨_,rfl,X⟩:=hw
  have ha:at_<y.length:=by
   grind [List.drop_eq_nil_of_le]
  have hx:y[at_]?=some ⟨op,r,mn,mx,lz,cap,a.length⟩:=by
   have:=ZaR (λl=>l[0]?) hd
   grind
  obtain⟨vr,hvr,hin,c0,c1,c2,c3,c4,c5,c6⟩:=nodeAt hR hx
  obtain⟨H,rn,rc,rfl⟩:=Bn hvr
  have HX:=Lib.hid (p:=Rd M w b o (aV (D:=D) 7 y)) hR
  clear hR hx
  go_enter Tryz.func129,Tryz.ntmps129
  go_wp2_with fail
  have hzs:w.heap.size<w.heap.size+2:=ω
  go_loopg [1,7] a.length (λg p i wr=>∃(k:Nat) (R:Value) (l:List E8) (G:List Nat),k<=a.length/\g=a.length-k/\p=.int .i64 ((at_+1+(aA (a.take k)).length:Nat):Int)/\i=.int .i64 k/\
   wr.heap[w.heap.size]?=some (.cells #[.int .i64 0,.slice none 0 0,.int .i64 0,.int .i64 0,.bool false,.int .i64 0,.int .i64 0,.slice none 0 0] 221 (0,0))/\
   wr.heap[w.heap.size+1]?=some (.cells #[.int .i64 op,.slice H rn rc,.int .i64 mn,.int .i64 mx,.bool lz,.int .i64 cap,.int .i64 a.length,R] 221 (0,0))/\
   qH wr R l/\KA M wr (a.take k) l G/\(h_ R++G).Nodup/\(∀c∈h_ R++G,w.heap.size+2<=c/\c<wr.heap.size)/\w.heap.size+2<=wr.heap.size/\Below w.heap.size w wr)
  case atStart=>
   refine⟨0,_,[],[],ω,rfl,by rw[ZcA,aA];go_num,rfl,?_,?_,j_.nil _ _ _ _ _,by rw[ZcA,KA];exact⟨rfl,rfl⟩,by simp[h_,Value.ownBlock],by simp[h_,Value.ownBlock],by simp,?_⟩
   ·grind [Below.heap_alloc,heap_alloc_new]
   ·exact sR (by simp) _
   ·exact((Below.refl _ _).alloc (Zah _) _).alloc (by simp) _
  case round=>
   obtain⟨k,R,l,G,hk,rfl,rfl,rfl,hz,q,ho,N,O,L,di,hbl⟩:=hrel
   have A:=IX N
   replace A:l.length=k:=by rw[A,Zar];omega
   have d6:wr.cell? ⟨w.heap.size+1,6,none⟩=some (.int .i64 a.length):=by simp[World.cell?,q]
   have d7:wr.cell? ⟨w.heap.size+1,7,none⟩=some R:=by simp[World.cell?,q]
   obtain⟨d,f,rfl,hrd,_⟩:=ho.rd
   rw[A] at ho O L d7 q
   have HL:=Lib.hid A
   have H1:=Lib.hid hz
   have H2:=Lib.hid q
   have H3:=Lib.hid ho
   have H4:=Lib.hid N
   have H5:=Lib.hid O
   have J:=Lib.hid L
   have H7:=Lib.hid hbl
   have H8:=Lib.hid X
   have H9:=Lib.hid hd
   clear hz q ho N O L hrd hd X A
   have hL:a.length<=y.length:=by
    have h1:=ZaR List.length H9.out
    grind [tN]
   by_cases hlt:k<a.length
   ·obtain⟨I,C⟩:∃I,a[k]?=some I:=⟨_,Zaf hlt⟩
    have ht:aA a=aA (a.take k)++(aD I++aA (a.drop (k+1))):=by
     grind [eH,cG,List.drop_eq_getElem_cons,List.take_append_drop]
    have htk:aA (a.take (k+1))=aA (a.take k)++aD I:=by rw[Zcr,C];exact yC _ _
    have hwt:ku I:=(qq a).1 H8.out I (ZaJ C)
    have U:y.drop (at_+1+(aA (a.take k)).length)=aD I++(aA (a.drop (k+1))++rest):=by
     have h1:=ZaR (List.drop (1+(aA (a.take k)).length)) H9.out
     grind [List.drop_drop]
    have z:=ih I (at_+1+(aA (a.take k)).length) _ wr (by rw[ht] at hn;simp only[Zae,Zab] at hn;omega) hwt U (λi v e=>let ⟨v',a1,a2⟩:=HX.out i v e;⟨v',(H7.out.cell (p:=⟨b,o+i,none⟩) hb).trans a1,a2⟩) ω
    have HT:=Lib.hid ht
    have HK:=Lib.hid htk
    have HX':=Lib.hid C
    clear ht htk C U hwt
    generalize hm:(aA (a.take k)).length=m at z
    have HM:=Lib.hid hm
    clear hm
    go_wp2_with fail
    refine z.mono ?_
    rintro e w1 ⟨x1,F1,rfl,Q,Y,V,lG⟩
    obtain⟨qa,qn,qc,pa,pn,pc,ex⟩:=yL Q
    rw[ex]
    have G1:=Lib.hid Q
    have G2:=Lib.hid Y
    have G3:=Lib.hid V
    have G4:=Lib.hid lG
    have G5:=Lib.hid ex
    have hs1:=lG.size
    have Z:qH w1 (.slice d k f) l:=H3.out.below lG (Zah _)
    have s:=(lG.block (w.heap.size+1) ω).trans H2.out
    have d7:w1.cell? ⟨w.heap.size+1,7,none⟩=some (.slice d k f):=by rw[iT s];rfl
    have O1:=Lib.hid Z
    have B1:=Lib.hid s
    have hs2:w.heap.size+1<w1.heap.size:=ω
    have hs3:w.heap.size+1<w1.heap.size+1:=ω
    have hlm:l.length<1000000000:=by rw[HL.out];omega
    clear Q Y V lG ex Z s
    go_wp2_with (at_builtin;go_must (refine CS (a_:=e8) (v:=.slice d k f) ϒ rfl rfl rfl rfl (by simp) (O1.out.alloc _) x1 G5.out.symm IW Qfy hlm (by decide) (Zaj _) ?_);intro v2 w2 o2 g2 f2;go_must (obtain⟨g',cp,rfl,_⟩:=o2.form (by simp);have B:=(g2.block (w.heap.size+1) (by simp;omega) (λe=>by have:=(J.out _ (Zay _ (by unfold h_;rw[<-e];exact ZaI.2 rfl))).1;omega)).trans ((Below.heap_alloc _ _ _ (by simp;omega)).trans ((Below.heap_alloc _ _ _ hs2).trans B1.out));have d8:w2.cell? ⟨w.heap.size+1,7,none⟩=some (.slice d k f):=iT B 7;have f8:w2.frozen? ⟨w.heap.size+1,7,none⟩=false:=LF B 7;have B2:=Lib.hid B;have O2:=Lib.hid o2;have G6:=Lib.hid g2;have G7:=Lib.hid f2;clear B o2 g2 f2))
    go_roundg (a.length-(k+1))
    case measure=>omega
    case rel=>
     have hE:(l++[x1]).length=l.length+1:=by simp
     have hr:=VM (u:=.slice (some ⟨g',0,none⟩) (l.length+1) cp) H3.out H4.out H5.out (n1:=w.heap.size+1) (λc E=>J.out c E) di G4.out G1.out G2.out G3.out O2.out G6.out G7.out
     rw[hE] at hr
     refine⟨k+1,_,_,_,ω,rfl,?_,by go_num,?_,?_,hr.1,?_,hr.2.2.1,hr.2.2.2,?_,?_⟩
     ·rw[HK.out,Zab,HM.out];go_num
     ·rw[Below.heap_setCell _ _ _ _ (by show w.heap.size≠w.heap.size+1;omega),G6.out.block _ (by simp;omega) (λe=>by have:=(J.out _ (Zay _ (sS e.symm))).1;omega),Below.heap_alloc _ _ _ (by simp;omega),Below.heap_alloc _ _ _ ω,G4.out.block _ ω];exact H1.out
     ·simp only[World.setCell,ZbF,Zac,B2.out,Zcp];rfl
     ·rw[Zcr,HX'.out];exact hr.2.1
     ·have:=G6.out.size;simp only[World.alloc,ZcH] at this;simp only[World.setCell,Array.size_modify];omega
     ·exact((H7.out.trans (G4.out.mono ω)).trans (((Below.refl w.heap.size w1).alloc ω _).alloc (by simp;omega) _)).grown G6.out (by simp;omega) (λc e=>by have:=(J.out _ (Zay _ (sS e))).1;omega) |>.setCell (by show w.heap.size<=w.heap.size+1;omega) _
   ·obtain rfl:k=a.length:=ω
    have hcz:∀j,wr.cell? ⟨w.heap.size,j,none⟩=(#[.int .i64 0,.slice none 0 0,.int .i64 0,.int .i64 0,.bool false,.int .i64 0,.int .i64 0,.slice none 0 0]:Array Value)[j]?:=λj=>iT H1.out j
    have hfz:∀j,wr.frozen? ⟨w.heap.size,j,none⟩=false:=LF H1.out
    have hcb:∀j,wr.cell? ⟨w.heap.size+1,j,none⟩=(#[.int .i64 op,.slice H rn rc,.int .i64 mn,.int .i64 mx,.bool lz,.int .i64 cap,.int .i64 a.length,.slice d a.length f]:Array Value)[j]?:=λj=>iT H2.out j
    clear d6 d7
    go_wp2_with fail
    obtain⟨W,hW⟩:∃W,W=Fv wr w.heap.size (.int .i64 op) (.slice H rn rc) (.int .i64 mn) (.int .i64 mx) (.bool lz) (.int .i64 cap) (.int .i64 a.length) (.slice d a.length f):=⟨_,rfl⟩
    have T:=Bo H1.out rfl (v0:=.int .i64 op) (v1:=.slice H rn rc) (v2:=.int .i64 mn) (v3:=.int .i64 mx) (v4:=.bool lz) (v5:=.int .i64 cap) (v6:=.int .i64 a.length) (v7:=.slice d a.length f)
    have K:=λk h=>yM (w:=wr) (b:=w.heap.size) (k:=k) (v0:=.int .i64 op) (v1:=.slice H rn rc) (v2:=.int .i64 mn) (v3:=.int .i64 mx) (v4:=.bool lz) (v5:=.int .i64 cap) (v6:=.int .i64 a.length) (v7:=.slice d a.length f) h
    have S:=lx (w:=wr) (b:=w.heap.size) (v0:=.int .i64 op) (v1:=.slice H rn rc) (v2:=.int .i64 mn) (v3:=.int .i64 mx) (v4:=.bool lz) (v5:=.int .i64 cap) (v6:=.int .i64 a.length) (v7:=.slice d a.length f)
    rw[<-hW] at T K S
    change bodyPost _ _ _ _ _ (Fv wr w.heap.size (.int .i64 op) (.slice H rn rc) (.int .i64 mn) (.int .i64 mx) (.bool lz) (.int .i64 cap) (.int .i64 a.length) (.slice d a.length f))
    rw[<-hW]
    have hT:=H4.out
    have hP:=H9.out
    rw[ZaM] at hT ⊢
    have hv:=run_loadVar_row (P:=prog) W w.heap.size _ 221 _ _ _ T Tryz.underlying221 rfl (by kernel_rfl)
    refine bodyPost_ret (VK rfl _ rfl hv) rfl ?_
    refine⟨⟨[.int .i64 op,.slice H rn rc,.int .i64 mn,.int .i64 mx,.bool lz,.int .i64 cap,.int .i64 a.length,.slice d a.length f],rfl,by simp[Value.oneCell']⟩,h_ (.slice d a.length f)++G,?_,?_,H5.out,λc E=>by have:=(J.out c E).1;omega,?_⟩
    ·have hn':at_+1+(aA a).length=at_+(aD (.mk op r mn mx lz cap (a.length:Int) a)).length:=by rw[aD,Zae];omega
     rw[<-hn']
     rfl
    ·rw[TA]
     exact⟨_,_,l,G,rfl,hvr,hin,nm H3.out λc E _=>K c (by have:=(J.out c (Zay _ E)).1;omega),rfl,qw (l4 M) _ _ _ hT λc E _=>K c (by have:=(J.out c (ZaC _ E)).1;omega)⟩
    ·exact H7.out.trans (S.mono (Zah _))
end sx
set_option maxRecDepth 100000
set_option maxHeartbeats 4000000
namespace sx
noncomputable section
open Go Go.RowKit cls syn
def IY (y:cj):Prop:=let b:=ag y.r;Iv True/\(∃z:CP,RAI y.r b ([]=z.o/\0=((z.i:Nat):Int)/\0=ag z.t/\[]=z.t/\(Iv (yI y z))))/\(∀x:CP,let q1:=((x.i:Nat):Int);let a:=gt (iX.mk [] []) y.r q1.toNat;let f:=!(!(jM x.t a.name));let c:=(cm a.text).1;let d:=rD x.t a.name q1;let g:=!(aB (cm a.text).2.1 0);let e:=bM x.o [lk (cP c)];(Iv (yI y x))->aj (aw q1 b) (aG 0 q1/\aw q1 b/\Iv True/\RAH a.name (aj (!(iZ a.name)) ([]=(bs y).out/\False) (Iv (TbP (XJ.mk x.t a.name q1))/\aa [a.name] (aa [q1,ag x.t] (aa [x.t] (aj f ([]=(bs y).out/\False) (Iv True/\aa [a.text] (aj g ([]=(bs y).out/\False) (Iv (oy c)/\aa [c] (bJ (ag e) 24/\∃z:CP,aa [y.r] (aa [b] (e=z.o/\ay .i64 q1 1=((z.i:Nat):Int)/\ag d=ag z.t/\d=z.t/\(Iv (yI y z/\(y.r.length-z.i)<(y.r.length-x.i))))))))))))))) (x.o=(bs y).out/\RAB (ag x.t=ag (bs y).tab/\x.t=(bs y).tab/\True)))
def IZ (y:cj):Prop:=let b:=ag y.r;Iv True/\(∃z:CP,RAI y.r b ([]=z.o/\0=((z.i:Nat):Int)/\0=ag z.t/\[]=z.t/\(Iv (yI y z))))/\(∀x:CP,let q1:=((x.i:Nat):Int);let a:=gt (iX.mk [] []) y.r q1.toNat;let g:=!(!(jM x.t a.name));let c:=(cm a.text).1;let d:=rD x.t a.name q1;let e:=(cm a.text).2.1;let f:=bM x.o [lk (cP c)];(Iv (yI y x))->aj (aw q1 b) (aG 0 q1/\aw q1 b/\Iv True/\RAH a.name (aj (!(iZ a.name)) (14=(bs y).an/\q1=(bs y).at_/\True) (Iv (TbP (XJ.mk x.t a.name q1))/\aa [a.name] (aa [q1,ag x.t] (aa [x.t] (aj g (8=(bs y).an/\q1=(bs y).at_/\True) (Iv True/\aa [a.text] (aj (!(aB e 0)) (e=(bs y).an/\q1=(bs y).at_/\True) (Iv (oy c)/\aa [c] (bJ (ag f) 24/\∃z:CP,aa [y.r] (aa [b] (f=z.o/\ay .i64 q1 1=((z.i:Nat):Int)/\ag d=ag z.t/\d=z.t/\(Iv (yI y z/\(y.r.length-z.i)<(y.r.length-x.i))))))))))))))) (False))
abbrev RAE (p:Prop):Prop:=aa ([[]]:List (List aW)) p
abbrev RAF (p:Prop):Prop:=aa ([[]]:List (List Int)) p
def I0 (y:cj):Prop:=let a:=CQ y;let q1:=bZ (bs y).out;let k:=ag (bs y).tab;let o:=!(aB (bs y).an 0);let b:=([lk (cP a)]:List (List Nd));let l:=!(aB (cm y.c).2.1 0);let m:=!(aB (bZ b).2.1 0);let i:=λp:Prop=>RAB (RA4 y p);let j:=λp:Prop=>RA4 y p;let n:=λp:Prop=>RAH (bs y).out (RAD p);let d:Prop:=(RAI k (bs y).tab (True));let e:Prop:=([]=(b9 y).cc/\[]=(b9 y).cs/\d);let f:Prop:=(RA4 y (RAE (RAF (RAE (RAF (False))))));let g:Prop:=((bZ b).1.1=(b9 y).cc/\(bZ b).1.2=(b9 y).cs/\d);let u:=Iv ((Ne (y,true).1.c [])->(cm y.c).2.1=0);let h:Prop:=(RA4 y (RAE (RAF (RAE (RAF (RAI k (bs y).tab (RA4 y (u))))))));aj (aw 8 (ag y.r)) (False) (aj (zM y) (Iv (VB (y,true))/\j (aj (!(aB 0 0)) (False) (Iv (y.r.length<=1000)/\j ((aj (!(seq y.c [])) (Iv True/\RAH y.c (aj l (aa [y.r] (False)) (∃z:Unit,n ((cm y.c).1=a/\h)))) (∃z:Unit,n ([]=a/\h)))/\(∀x:Unit,u->Iv (pJ (bs y).out)/\RAH (bs y).out (aj (!(aB q1.2.1 0)) (False) (aj (!(seq y.c [])) (Iv (oy a)/\aa [a] (Iv (pJ b)/\aa [b] (aj m (aa [y.r] (False)) (i (q1.1.1=(b9 y).af/\q1.1.2=(b9 y).st/\g))))) (i (q1.1.1=(b9 y).af/\q1.1.2=(b9 y).st/\e))))))))) (Iv (VB (y,false))/\j (aj o (False) (Iv (y.r.length<=1000)/\j ((aj (!(seq y.c [])) (Iv True/\RAH y.c (aj l (aa [y.r] (False)) (∃z:Unit,aa [(bs y).at_] ((cm y.c).1=a/\f)))) (∃z:Unit,RAH (bs y).at_ ([]=a/\f)))/\(∀x:Unit,u->Iv (pJ [])/\RAH ([]:List (List Nd)) (aj (!(aB (bZ []).2.1 0)) (False) (aj (!(seq y.c [])) (Iv (oy a)/\aa [a] (Iv (pJ b)/\aa [b] (aj m (aa [y.r] (False)) (i ((bZ []).1.1=(b9 y).af/\(bZ []).1.2=(b9 y).st/\g))))) (i ((bZ []).1.1=(b9 y).af/\(bZ []).1.2=(b9 y).st/\e))))))))))
def I9 (y:cj):Prop:=let a:=CQ y;let q1:=ag (bs y).tab;let l:=!(aB (bs y).an 0);let b:=(cm y.c).2.1;let g:=([lk (cP a)]:List (List Nd));let i:=(bZ (bs y).out).2;let m:=!(aB (bZ g).2.1 0);let h:=λp:Prop=>RA4 y p;let k:=λp:Prop=>RAH (bs y).out (RAD p);let j:Prop:=(ag y.r=(b9 y).at_/\True);let d:Prop:=(RA4 y (RAE (RAF (RAE (RAF (False))))));let u:=Iv ((Ne (y,false).1.c [])->b=0);let e:Prop:=(RA4 y (RAE (RAF (RAE (RAF (RAI q1 (bs y).tab (RA4 y (u))))))));let f:Prop:=(aj (!(seq y.c [])) (Iv (oy a)/\RAH a (Iv (pJ g)/\aa [g] (aj m (aa [y.r] ((bZ g).2.1=(b9 y).an/\j)) (False)))) (False));let A:=aa [y.r] (b=(b9 y).an/\j);aj (aw 8 (ag y.r)) (13=(b9 y).an/\8=(b9 y).at_/\True) (aj (zM y) (Iv (VB (y,true))/\h (aj (!(aB 0 0)) (0=(b9 y).an/\0=(b9 y).at_/\True) (Iv (y.r.length<=1000)/\h ((aj (!(seq y.c [])) (Iv True/\RAH y.c (aj (!(aB b 0)) A (∃z:Unit,k ((cm y.c).1=a/\e)))) (∃z:Unit,k ([]=a/\e)))/\(∀x:Unit,u->Iv (pJ (bs y).out)/\RAH (bs y).out (aj (!(aB i.1 0)) (i.1=(b9 y).an/\i.2=(b9 y).at_/\True) (f))))))) (Iv (VB (y,false))/\h (aj l ((bs y).an=(b9 y).an/\(bs y).at_=(b9 y).at_/\True) (Iv (y.r.length<=1000)/\h ((aj (!(seq y.c [])) (Iv True/\RAH y.c (aj (!(aB b 0)) A (∃z:Unit,aa [(bs y).at_] ((cm y.c).1=a/\d)))) (∃z:Unit,RAH (bs y).at_ ([]=a/\d)))/\(∀x:Unit,u->Iv (pJ [])/\RAH ([]:List (List Nd)) (aj (!(aB (bZ []).2.1 0)) ((bZ []).2.1=(b9 y).an/\(bZ []).2.2=(b9 y).at_/\True) (f))))))))
end
end sx
namespace sx
open Go Go.RowKit cls syn
set_option maxRecDepth 100000
set_option maxHeartbeats 4000000
section
variable {G:List Gt} {aH:Ps->Ps×List Nd}
variable {l:List Nd} {c:List (List Nd)}
theorem eQ:cE []:=λx a=>nomatch a
theorem LG {x:Nd} (h:iO x) (hl:cE l):cE (x::l):=λy a=>by
 rcases List.mem_cons.mp a with h1 | h1
 ·grind
 ·exact hl y h1
def yN {op:Int} (hl:cE l) (mn mx:Int) (lz:Bool) (cap ae:Int):cE (⟨op,[],mn,mx,lz,cap,ae⟩::l):=LG (Zaj _) hl
def sT (l:List Rg) (h:l.length<=1000000):cE [xu l]:=LG h eQ
theorem ϔ (s:Ps):(eh G s).2.1.length<=1000000:=by
 grind [eh,AD]
def Qfz (s:Ps):cE (sd G s).2:=by
 unfold sd;simp only;split
 ·exact eQ
 ·split
  ·exact eQ
  ·split
   ·exact eQ
   ·refine sT _ ?_;split<;>exact lb _
def VS (A:∀s,cE (aH s).2) (s:Ps):cE (ig G aH s).2:=by
  unfold ig;generalize bb G s.next 63=free;cases free<;>simp only[Zbv,Za0,ZaE]
  all_goals
    split
    · exact eQ
    · split
      · exact eQ
      · first
          | (split
             · exact eQ
             · split
               · exact eQ
               · first | exact A _ | exact yN (A _) _ _ _ _ _)
          | (split
             · exact eQ
             · first | exact A _ | exact yN (A _) _ _ _ _ _)
theorem ϕ (A:∀s,cE (aH s).2) (s:Ps):cE (jb G aH s).2:=by
 unfold jb;simp only;split
 ·exact eQ
 ·split
  ·exact VS A s
  ·split
   ·exact Qfz s
   ·split
    ·exact sT _ (ϔ s)
    ·split
     ·exact sT _ (lb _)
     ·split
      ·exact yN eQ _ _ _ _ _
      ·split
       ·exact yN eQ _ _ _ _ _
       ·split
        ·exact eQ
        ·exact sT _ (lb _)
theorem ϖ (s:Ps) (mn mx:Int) (h:cE l):cE (nL G s mn mx l).2:=by
 unfold nL;split
 ·exact eQ
 ·exact yN h _ _ _ _ _
theorem QfA (A:∀s,cE (aH s).2) (s:Ps):cE (fv G aH s).2:=by
 grind [ϕ,fv,eQ,ϖ]
theorem LH (op:Int) (h:∀l∈c,cE l):cE (bW op c):=by
 match c,h with
 | [],_=>exact yN eQ _ _ _ _ _
 | [x],h=>exact h x (by simp)
 | a::b::c,h=>
  refine yN (λx d=>?_) _ _ _ _ _;have⟨l,hl,d⟩:=List.mem_flatten.mp d;exact h l hl x d
theorem CT (h:∀x∈c,cE x) (b:cE l):∀x∈c++[l],cE x:=λx hl=>by
 grind
theorem Fw (A:∀s,cE (aH s).2):∀(n:Nat) (s:Ps) (a:List (List Nd)),(∀l∈a,cE l)->∀l∈(eI G aH n s a).2,cE l
 | 0,s,a,h=>h
 | n+1,s,a,h=>by
  rw[eI];split
  ·exact Fw A n _ _ (CT h (QfA A s))
  ·exact h
def VT (A:∀s,cE (aH s).2) (s:Ps):cE (mD G aH s).2:=LH 3 (Fw A _ _ _ λl hl=>nomatch hl)
theorem Fy (A:∀s,cE (aH s).2):∀(n:Nat) (s:Ps) (a:List (List Nd)),(∀l∈a,cE l)->∀l∈(gx G aH n s a).2,cE l
 | 0,s,a,h=>h
 | n+1,s,a,h=>by
  rw[gx];split
  ·exact Fy A n _ _ (CT h (VT A s.next))
  ·exact h
theorem I':∀(n:Nat) (s:Ps),cE (qZ G n s).2
 | 0,s=>eQ
 | n+1,s=>LH 4 (Fy (I' n) _ _ _ λl hl=>by rw[List.mem_singleton.mp hl];exact VT (I' n) s)
end
variable {l:List Row} {k:By}
theorem ma (y:By):cE (cm y).1:=by
 grind [cm,eQ,xw,I']
theorem LI (v:Int) (h:jM l k=false):rD l k v=l.take (lL l k)++⟨k,v⟩::l.drop (lL l k):=by
 grind [rD]
theorem QfB {j:Nat} (h:j<lL l k) (a:j<l.length):(l[j]).k<k:=by
 have:=ZdK h;grind
theorem VU (d:CL l) (f:jM l k=false) {j:Nat} (h:lL l k<=j) (c:j<l.length):k<(l[j]).k:=by
 have b:∀i (hi:i<l.length),(l[i]).k≠k:=λi hi e=>by
  grind [jM]
 have a:lL l k<l.length:=Nat.lt_of_le_of_lt h c;have h0:¬(l[lL l k]).k<k:=by
  have:=ZcC (w:=a);simp only[Zan,Zbi] at this;exact this
 have h1:k<(l[lL l k]).k:=Std.lt_of_le_of_ne ω λe=>b _ a e.symm
 rcases Zbm (lL l k) j with e | e
 ·exact Zdk h1 (List.pairwise_iff_getElem.mp d _ _ a c e)
 ·grind
theorem VV {v:Int} (c:CL l) (g:jM l k=false):CL (rD l k v)/\(rD l k v).length=l.length+1:=by
 rw[LI v g];constructor
 ·unfold CL;rw[ZbC];refine⟨ZdS (List.take_sublist _ _) c,List.pairwise_cons.mpr ⟨λb f=>?_,ZdS (List.drop_sublist _ _) c⟩,λa d b f=>?_⟩
  ·grind [List.getElem_of_mem,VU]
  ·have⟨i,hi,e⟩:=Za3 d;have h1:a.k<k:=by grind [QfB]
   grind [List.getElem_of_mem,List.lt_trans,VU]
 ·grind
theorem yO {y:cj} {x:CP} (h:yI y x) (b:x.i<y.r.length):
  (iZ (y.r.getD x.i ⟨[],[]⟩).name=false->(bs y).an=14/\(bs y).at_=x.i)/\
  (iZ (y.r.getD x.i ⟨[],[]⟩).name->jM x.t (y.r.getD x.i ⟨[],[]⟩).name->(bs y).an=8/\(bs y).at_=x.i)/\
  (iZ (y.r.getD x.i ⟨[],[]⟩).name->jM x.t (y.r.getD x.i ⟨[],[]⟩).name=false->((cm (y.r.getD x.i ⟨[],[]⟩).text).2.1≠0->(bs y).an=(cm (y.r.getD x.i ⟨[],[]⟩).text).2.1/\(bs y).at_=x.i)/\
   ((cm (y.r.getD x.i ⟨[],[]⟩).text).2.1=0->yI y ⟨rD x.t (y.r.getD x.i ⟨[],[]⟩).name x.i,x.o++[cP (cm (y.r.getD x.i ⟨[],[]⟩).text).1],x.i+1⟩)):=by
 have⟨h1,d,j,f,a⟩:=h;rw[Zaq b,l3] at a;rw[eL b];refine⟨λe=>?_,λc e=>?_,λc e2=>⟨λe=>?_,λe=>?_⟩⟩
 ·grind
 ·grind
 ·grind
 ·rw[Zaa (by grind),Zaa (by grind),Zaa ω] at a;have⟨g,k⟩:=VV (v:=(x.i:Int)) d e2;exact⟨b,g,by grind,by simp[f],a⟩
theorem Qky (y:cj) (b:Bool) (l:Ft.pre (y,b)):(b->IY y)/\(b=false->IZ y):=by
 obtain⟨hl,s⟩:y.r.length<=8/\b=zM y:=l;have m:(zM y↔(bs y).an=0):=by grind [zM]
 have hz:yI y ⟨[],[],0⟩:=⟨Zaj _,List.Pairwise.nil,Zah _,rfl,by grind [bs,aC]⟩;have k:∀n,gt (iX.mk [] []) y.r n=y.r.getD n ⟨[],[]⟩:=λ_=>rfl
 constructor
 ·intro p;unfold IY;simp only[bL,bC,au,k,br,Zad,aT,Zan,Zao,aC];refine⟨⟨⟨[],[],0⟩,rfl,rfl,rfl,rfl,hz⟩,λx c=>⟨λe=>?_,λe=>?_⟩⟩
  ·have f:x.i<y.r.length:=ω;have⟨g,j,s3⟩:=yO c f;have⟨i1,i2,i3,i4,i5⟩:=c;refine⟨ω,e,λq=>?_,λq=>⟨⟨i2,by grind⟩,λa=>?_,λa=>⟨λd=>?_,λd=>⟨ma _,?_,_,rfl,bK ω,rfl,rfl,(s3 q a).2 d,by grind⟩⟩⟩⟩
   ·grind
   ·grind
   ·grind
   ·grind
  ·have⟨i1,i2,i3,i4,i5⟩:=c;grind [l3]
 ·intro o;have h0:(bs y).an≠0:=λh=>by grind
  unfold IZ;simp only[bL,bC,au,k,br,Zad,aT,Zan,Zao,aC];refine⟨⟨⟨[],[],0⟩,rfl,rfl,rfl,rfl,hz⟩,λx c=>⟨λe=>?_,λe=>?_⟩⟩
  ·have f:x.i<y.r.length:=ω;have⟨g,j,s3⟩:=yO c f;have⟨i1,i2,i3,i4,i5⟩:=c;refine⟨ω,e,λq=>⟨(g q).1.symm,(g q).2.symm⟩,λq=>⟨⟨i2,by grind⟩,λa=>⟨(j q a).1.symm,(j q a).2.symm⟩,λa=>⟨λd=>⟨((s3 q a).1 d).1.symm,((s3 q a).1 d).2.symm⟩,λd=>⟨ma _,?_,_,rfl,bK ω,rfl,rfl,(s3 q a).2 d,by grind⟩⟩⟩⟩;simp only[Zab,Zae,Zak];omega
  ·have⟨i1,i2,i3,i4,i5⟩:=c;have:x.i=y.r.length:=ω;rw[this,ZbH,l3] at i5;rw[<-i5] at h0;exact h0 rfl
def Qkz (hs:Ok IT) (b:Ok dB) (c:Ok yk):Ok Ft:=Qo5 (k:=Ft) (T:=IY) (F:=IZ) [Vw,IQ,IT,zH,E7] f73 Qkl id id (λ_=>rfl) ⟨Qki,Qkf,hs,Qcj b c,Qcz b⟩ (λy a=>(Qky y true a).1 rfl) λy a=>(Qky y false a).2 rfl
theorem wm {l:List Nd} (h:cE l):cE (cP l):=by
 unfold cP;split
 ·rename_i b
  have⟨t,h1,a,c⟩:=jl b;have e:cu l=(t,[]):=by grind [pE]
  rw[e];exact(qp t (E_ t h1) (by rw[<-a];exact⟨Zah _,h⟩)).2.2
 ·exact eQ
theorem wo:∀(l:List iX) (i:Nat) (t:List Row) (o:List (List Nd)),(∀x∈o,cE x)->(∀x∈(l3 l i t o).out,cE x)/\(l3 l i t o).out.length<=o.length+l.length
 | [],i,t,o,h=>⟨h,Zah _⟩
 | x::l,i,t,o,h=>by
  rw[l3];split
  ·grind
  ·split
   ·grind
   ·split
    ·grind
    ·have⟨h1,a⟩:=wo l (i+1) (rD t x.name i) (o++[cP (cm x.text).1]) (CT h (wm (ma _)));grind
section
variable {y:cj} (h1:¬8<y.r.length)
include h1
theorem VW (a:(bs y).an≠0):jm y=LB (bs y).an (bs y).at_:=by grind [jm]
theorem VX (a:(bs y).an=0) (b:y.c≠[]) (d:(cm y.c).2.1≠0):jm y=LB (cm y.c).2.1 y.r.length:=by grind [jm]
variable (h2:(bs y).an=0) (h3:y.c≠[]->(cm y.c).2.1=0)
include h2 h3
theorem VY (a:(bZ (bs y).out).2.1≠0):jm y=LB (bZ (bs y).out).2.1 (bZ (bs y).out).2.2:=by grind [jm]
variable (h4:(bZ (bs y).out).2.1=0)
include h4
theorem VZ (a:y.c≠[]) (b:(bZ [cP (cm y.c).1]).2.1≠0):jm y=LB (bZ [cP (cm y.c).1]).2.1 y.r.length:=by grind [jm]
theorem V0 (a:y.c≠[]) (b:(bZ [cP (cm y.c).1]).2.1=0):jm y=⟨(bZ (bs y).out).1.1,(bZ (bs y).out).1.2,(bZ [cP (cm y.c).1]).1.1,(bZ [cP (cm y.c).1]).1.2,0,0⟩:=by grind [jm]
theorem V1 (a:y.c=[]):jm y=⟨(bZ (bs y).out).1.1,(bZ (bs y).out).1.2,[],[],0,0⟩:=by grind [jm]
end
theorem QkA (y:cj) (b:Bool) (B:zN.pre (y,b)):(b->I0 y)/\(b=false->I9 y):=by
 obtain⟨hl,E⟩:y.r.length<=1000/\b=oK y:=B;have z:b9 y=jm y:=by grind [b9,aC]
 have n:y.c≠[]->CQ y=(cm y.c).1:=λh=>by grind [CQ,aC]
 have j:y.c=[]->CQ y=[]:=λh=>by grind [CQ,aC]
 have p:b↔(jm y).an=0:=by grind [oK]
 have m:(zM y↔(bs y).an=0):=by grind [zM]
 have i:(zM y=false↔(bs y).an≠0):=by grind
 have v:∀{s:By},seq s []=false↔s≠[]:=λ{s}=>by grind
 obtain⟨C,F⟩:(∀x∈(bs y).out,cE x)/\(bs y).out.length<=y.r.length:=by
  grind [wo,bs,aC]
 have w:pJ (bs y).out:=⟨ω,C⟩;have q:cE (CQ y):=by
  by_cases h:y.c=[]
  ·grind [eQ]
  ·grind [ma]
 have u:pJ [cP (CQ y)]:=⟨by simp,λl hl=>by rw[List.mem_singleton.mp hl];exact wm q⟩;have t:8<y.r.length->jm y=LB 13 8:=λh=>by grind [jm]
 constructor
 ·intro A;have h0:=p.mp A;unfold I0;simp only[bL,bC,au,xJ,v,Zan,Zao,aC,ZaY,ZaZ,m,i];refine⟨λo=>?_,λo=>⟨λd=>⟨⟨by grind,(m.mpr d).symm⟩,λh=>absurd rfl h,hl,⟨λa=>⟨λf=>?_,λf=>⟨(n a).symm,λ_=>f⟩⟩,λa=>⟨(j a).symm,λh=>absurd a h⟩⟩,λk=>⟨w,λg=>?_,λg=>⟨λa=>⟨q,u,λe=>?_,λe=>?_⟩,λa=>?_⟩⟩⟩,λd=>absurd ?_ d⟩⟩
  ·rw[t ω] at h0;cases h0
  ·rw[VX ω d a f] at h0;exact f h0
  ·rw[VY ω d k g] at h0;exact g h0
  ·rw[n a] at e;rw[VZ ω d k g a e] at h0;exact e h0
  ·grind [V0]
  ·grind [V1]
  ·refine Zch λh=>?_
   rw[VW ω h] at h0;exact h h0
 ·intro D;unfold I9;rw[z];simp only[bL,bC,au,xJ,v,Zan,Zao,aC,ZaY,ZaZ,m,i];refine⟨λo=>?_,λo=>⟨λd=>⟨⟨by grind,(m.mpr d).symm⟩,λh=>absurd rfl h,hl,⟨λa=>⟨λf=>?_,λf=>⟨(n a).symm,λ_=>f⟩⟩,λa=>⟨(j a).symm,λh=>absurd a h⟩⟩,λk=>⟨w,λg=>?_,λg=>⟨λa=>⟨q,u,λe=>?_,λe=>?_⟩,λa=>?_⟩⟩⟩,λd=>⟨⟨by grind,(i.mpr d).symm⟩,λ_=>?_,λh=>absurd h d⟩⟩⟩
  ·rw[t ω];exact⟨rfl,rfl⟩
  ·rw[VX ω d a f];exact⟨rfl,rfl⟩
  ·rw[VY ω d k g];exact⟨rfl,rfl⟩
  ·rw[n a] at e ⊢;rw[VZ ω d k g a e];exact⟨rfl,rfl⟩
  ·grind [V0]
  ·grind [V1]
  ·rw[VW ω d];exact⟨rfl,rfl⟩
def QkB (hs:Ok IT) (a:Ok dB) (c:Ok yk):Ok zN:=Qo5 (k:=zN) (T:=I0) (F:=I9) [Ft,Vx,zH,IP,E7] f28 Qkp id id (λ_=>rfl) ⟨Qkz hs a c,Qkj,Qcj a c,Qkc a,Qcz a⟩ (λy b=>(QkA y true b).1 rfl) λy b=>(QkA y false b).2 rfl
end sx
set_option maxRecDepth 100000
set_option maxHeartbeats 4000000
namespace sx
noncomputable section
open Go Go.RowKit cls syn
def I_:bh D:=bO 130 ah (λa _=>vp a) dO (λy=>[.agg (D.a_ 15 y)]) λy=>.list 7 (dg y)
def Qr7 (t:ah):ah:=.mk t.op t.r t.mn t.mx t.lz t.cap t.ae.length t.ae
abbrev tbx (t:ah):Nat×AO D.E:=(0,.cells (D.a_ 15 t) 221 false)
def Qr9 (y:I_.Y):cH D:=⟨[],[],[(122,⟨Nat,[],λx=>[(1,.ptr 0 0),(3,.grow 7 (pA y x) 1),(4,Qvo x)],[],λ_=>[tbx (Qr7 y),(1,.tok 7 206)],2,λx=>x<=y.ae.length,λx=>y.ae.length-x⟩)],[],1,[]⟩
def Qsa (y:I_.Y):Prop:=vc [I_.under dm (dm y)] f130 I_ Qr9 y
def vD (a b:ah):Bool:=lk (decide (aD a=aD b))
def Oz:bh D:=bO 258 (ah×ah) (λa _=>QjK a) (λy=>dO y.1/\dO y.2) (λy=>[.agg (D.a_ 15 y.1),.agg (D.a_ 15 y.2)]) λy=>.bool (vD y.1 y.2)
def Fz (y:ah×ah) (i:Nat):Prop:=i<=(dg y.1).length/\(dg y.1).length=(dg y.2).length/\∀j,j<i->(dg y.1).getD j (nd 0)=(dg y.2).getD j (nd 0)
def OA (y:ah×ah) (i k:Nat):Prop:=Fz y i/\i<(dg y.1).length/\({ (dg y.1).getD i (nd 0) with r:=[] }={ (dg y.2).getD i (nd 0) with r:=[] }/\((dg y.1).getD i (nd 0)).r.length=((dg y.2).getD i (nd 0)).r.length)/\k<=((dg y.1).getD i (nd 0)).r.length/\∀j,j<k->((dg y.1).getD i (nd 0)).r.getD j (0,0)=((dg y.2).getD i (nd 0)).r.getD j (0,0)
def Qsb (y:Oz.Y):cH D:=⟨[],[],[(122,⟨Nat,[5,6],λi=>[(7,Qvo i)],[],λ_=>[],0,Fz y,λi=>(dg y.1).length-i⟩)],[],1,
 [(15654,⟨Nat,λi=>⟨Nat,[5,6,7],λx=>[(8,Qvo x)],[],λ_=>[],0,OA y i,λx=>((dg y.1).getD i (nd 0)).r.length-x⟩,none⟩)]⟩
def Ja:bh D:=bO 228 ah (λa _=>vp a) dO (λy=>[.agg (D.a_ 15 y)]) λy=>.bool (fo y)
def Qsd (y:Ja.Y):cH D:=⟨[],[],[(58,{ X:=Nat,aO:=[],sl:=λx=>[(1,.ptr 0 0),(3,Qvo x)],kp:=[],pc:=λ_=>[tbx y],nx:=1,inv:=λx=>x<=y.ae.length/\∀j,j<x->fo (y.ae.getD j bF)=false,me:=λx=>y.ae.length-x })],[],1,[]⟩
def Qse (y:Ja.Y):Prop:=vc [Ja.under dm (dm y)] f228 Ja Qsd y
abbrev RA8 (v:ah) (p:Prop):Prop:=aa [v.r] (aa [v.mn] (aa [v.mx] (aa [v.lz] (aa [v.cap] p))))
def V2 (y:ah):Prop:=let b:=y.ae;let q1:=b.length;let d:=(q1:Int);(∃z:Nat,([Nd.mk y.op y.r y.mn y.mx y.lz y.cap (ag b)]:List Nd)=pA y z/\0=(z:Int)/\RAH y.op (RA8 y (ag b=d/\aa [b] ((Iv (z<=q1))))))/\(∀x:Nat,let e:=aw (x:Int) (ag b);let a:=gt (ah.mk 0 [] 0 0 false 0 0 []) b (x:Int).toNat;let c:=ah.mk a.op a.r a.mn a.mx a.lz a.cap a.nk a.ae;let f:=bM (pA y x) (dg c);(Iv (x<=q1))->aj e (aG 0 (x:Int)=true/\e=true/\Iv (dO c/\dm c<dm y)/\RA1 a (RAH a.ae (bJ (ag f) 72=true/\∃z:Nat,f=pA y z/\ay .i64 (x:Int) 1=(z:Int)/\aa [y.op] (aa [y.r] (aa [y.mn,y.mx] (aa [y.lz] (aa [y.cap,d] (aa [b] ((Iv (z<=q1/\(q1-z)<(q1-x)))))))))))) (pA y x=dg y/\True))
def ϗ:∀y,V2 y=Qsa y:=λy=>by kernel_rfl
def V3 (y:ah×ah):Prop:=let u:=(dg y.1).length;let q1:=ah.mk y.2.op y.2.r y.2.mn y.2.mx y.2.lz y.2.cap y.2.nk y.2.ae;let v:=ah.mk y.1.op y.1.r y.1.mn y.1.mx y.1.lz y.1.cap y.1.nk y.1.ae;let i:=dg v;let j:=dg q1;let c:=ag i;let g:=ag j;let A:=Nd.mk 0 [] 0 0 false 0 0;Iv (dO v)/\RA1 y.1 (RAH y.1.ae (Iv (dO q1)/\aa [y.2.op] (aa [y.2.r] (aa [y.2.mn,y.2.mx] (aa [y.2.lz] (aa [y.2.cap,y.2.nk] (aa [y.2.ae] (aa [y.1.op] (aa [y.1.r] (aa [y.1.mn,y.1.mx] (aa [y.1.lz] (aa [y.1.cap,y.1.nk] (aa [y.1.ae] (aa [y.2.op] (aa [y.2.r] (aa [y.2.mn,y.2.mx] (aa [y.2.lz] (aa [y.2.cap,y.2.nk] (aa [y.2.ae] (aa [y.2.op] (aa [y.2.r] (aa [y.2.mn,y.2.mx] (aa [y.2.lz] (aa [y.2.cap,y.2.nk] (aa [y.2.ae] (aj (!(aB c g)) (false=vD y.1 y.2/\True) ((∃z:Nat,aa [i,j] (0=(z:Int)/\(Iv (Fz y z))))/\(∀x:Nat,let a:=gt A i (x:Int).toNat;let b:=gt A j (x:Int).toNat;let w:=!(aB a.op b.op);let m:=!(oD a.lz b.lz);let n:=!(aB a.ae b.ae);let o:=!(aB a.cap b.cap);let p:=!(aB a.mx b.mx);let q:=!(aB a.mn b.mn);let s:=!(aB (ag a.r) (ag b.r));(Iv (Fz y x))->aj (aw (x:Int) c) (aG 0 (x:Int)/\aw (x:Int) c/\aG 0 (x:Int)/\aw (x:Int) g/\aj w (aa [a.op,b.op] (false=vD y.1 y.2/\True)) (aG 0 (x:Int)/\aw (x:Int) c/\aG 0 (x:Int)/\aw (x:Int) g/\aj q (aa [a.op,b.op,a.mn,b.mn] (false=vD y.1 y.2/\True)) (aG 0 (x:Int)/\aw (x:Int) c/\aG 0 (x:Int)/\aw (x:Int) g/\aj p (aa [a.op,b.op,a.mn,b.mn,a.mx,b.mx] (false=vD y.1 y.2/\True)) (aG 0 (x:Int)/\aw (x:Int) c/\aG 0 (x:Int)/\aw (x:Int) g/\aj m (aa [a.op,b.op,a.mn,b.mn,a.mx,b.mx] (aa [a.lz,b.lz] (false=vD y.1 y.2/\True))) (aG 0 (x:Int)/\aw (x:Int) c/\aG 0 (x:Int)/\aw (x:Int) g/\aj o (aa [a.op,b.op,a.mn,b.mn,a.mx,b.mx] (aa [a.lz,b.lz] (aa [a.cap,b.cap] (false=vD y.1 y.2/\True)))) (aG 0 (x:Int)/\aw (x:Int) c/\aG 0 (x:Int)/\aw (x:Int) g/\aj n (aa [a.op,b.op,a.mn,b.mn,a.mx,b.mx] (aa [a.lz,b.lz] (aa [a.cap,b.cap,a.ae,b.ae] (false=vD y.1 y.2/\True)))) (aG 0 (x:Int)/\aw (x:Int) c/\aG 0 (x:Int)/\aw (x:Int) g/\aa [a.op,b.op,a.mn,b.mn,a.mx,b.mx] (aa [a.lz,b.lz] (aa [a.cap,b.cap,a.ae,b.ae] (aa [a.r,b.r] (aj s (false=vD y.1 y.2/\True) (∃z:Nat,let k:=(List.getD (dg y.1) z (nd 0)).r.length;(∃d:Nat,aa [i,j] (aa [(x:Int)] (0=(d:Int)/\(Iv (OA y z d)))))/\(∀h:Nat,let l:=aw (h:Int) (ag a.r);let e:=gt (0,0) a.r (h:Int).toNat;let f:=gt (0,0) b.r (h:Int).toNat;let t:=!((aB e.1 f.1)&&(aB e.2 f.2));(Iv (OA y z h))->aG 0 (x:Int)/\aw (x:Int) c/\aj l (aG 0 (x:Int)/\aw (x:Int) c/\aG 0 (h:Int)/\l/\aG 0 (x:Int)/\aw (x:Int) g/\aG 0 (h:Int)/\aw (h:Int) (ag b.r)/\aa [a.r] (aa [e.1,e.2] (aa [b.r] (aa [f.1,f.2] (aj t (false=vD y.1 y.2/\True) (∃d:Nat,aa [i,j] (aa [(x:Int)] (ay .i64 (h:Int) 1=(d:Int)/\(Iv (OA y z d/\(k-d)<(k-h))))))))))) (∃d:Nat,aa [i,j] (ay .i64 (x:Int) 1=(d:Int)/\(Iv (Fz y d/\(u-d)<(u-x)))))))))))))))))) (true=vD y.1 y.2/\True)))))))))))))))))))))))))))))
def V4 (y:ah):Prop:=let b:=y.ae;let f:=λp:Prop=>RA1 y (RAH b p);let u:=λz:Nat=>(∀j:Nat,(Nat.le (Nat.succ j) z)->fo (List.getD b j bF)=false);aj (aB y.op 6) (true=fo y/\True) ((∃z:Nat,0=(z:Int)/\f ((Iv (z<=b.length/\u z))))/\(∀x:Nat,let c:=b.length;let e:=aw (x:Int) (ag b);let a:=gt (ah.mk 0 [] 0 0 false 0 0 []) b (x:Int).toNat;let d:=ah.mk a.op a.r a.mn a.mx a.lz a.cap a.nk a.ae;(Iv (x<=c/\(∀j:Nat,(Nat.le (Nat.succ j) x)->fo (List.getD b j bF)=false)))->aj e (aG 0 (x:Int)/\e/\Iv (dO d/\dm d<dm y)/\RA1 a (RAH a.ae (aj (fo d) (true=fo y/\True) (∃z:Nat,ay .i64 (x:Int) 1=(z:Int)/\f ((Iv ((z<=c/\u z)/\(c-z)<(c-x)))))))) (false=fo y/\True)))
def ϙ:∀y,V4 y=Qse y:=λy=>by kernel_rfl
theorem FA (l:List ah):l.length<=(aA l).length:=by
 induction l with
 | nil=>simp
 | cons a l b=>simp only[aA,Zab,Zae];rw[bT];simp;omega
theorem yP {y:ah} (h:dO y) {x:Nat} (c:x<y.ae.length):dO (y.ae.getD x bF)/\pA y x++dg (y.ae.getD x bF)=pA y (x+1)/\(pA y (x+1)).length<=1000000:=by
 obtain⟨h1,a⟩:=h;have ht:=cq bF c;have d:y.ae=y.ae.take x++(y.ae.getD x bF::y.ae.drop (x+1)):=by
  simp_all
 have b:aA y.ae=aA (y.ae.take x)++(aD (y.ae.getD x bF)++aA (y.ae.drop (x+1))):=by
  grind [cG,aA]
 have hs:aA (y.ae.take (x+1))=aA (y.ae.take x)++aD (y.ae.getD x bF):=by
  grind [cG,aA]
 have hlen:=ZaR List.length b;simp only[Zab] at hlen;rw[bT] at h1;simp only[Zae] at h1;unfold pA dg;rw[aC,aC,aC,hs];refine⟨⟨ω,λz hz=>a z ?_⟩,rfl,by grind⟩;grind [bT]
theorem dO.few {y:ah} (h:dO y):y.ae.length<=1000000:=by
 have:=FA y.ae;have h1:=h.1;grind [bT]
theorem Qsf (y:ah) (a:I_.pre y):V2 y:=by
 have a:dO y:=a;have hk:=a.few;unfold V2;have b:∀n,gt (ah.mk 0 [] 0 0 false 0 0 []) y.ae n=y.ae.getD n bF:=λ_=>rfl
 simp only[bC,fm,dA,hU,au,aT,br,b,bR,Zad];refine⟨⟨0,by unfold pA;rw[aC];rfl,rfl,Zaj _⟩,λx c=>⟨λe=>?_,λe=>?_⟩⟩
 ·obtain⟨k1,k2,k3⟩:=yP a (show x<y.ae.length by omega);rw[k2];exact⟨ω,e,⟨k1,iP ω⟩,ω,x+1,rfl,bK ω,ω,ω⟩
 ·grind [pA,dg,bT]
def QcK:Ok I_:=RC dm ϗ trivial Qsf
theorem Qsg (y:ah×ah) (O:Oz.pre y):V3 y:=by
 obtain⟨a,b⟩:=y;obtain⟨o,K⟩:dO a/\dO b:=O;have I:vD a b=decide (aD a=aD b):=by grind [vD,aC]
 have G:∀i,Fz (a,b) i↔(i<=(aD a).length/\(aD a).length=(aD b).length/\∀j,j<i->(aD a).getD j (nd 0)=(aD b).getD j (nd 0)):=λi=>by grind [Fz,dg,aC]
 have H:∀i k,OA (a,b) i k↔(Fz (a,b) i/\i<(aD a).length/\({ (aD a).getD i (nd 0) with r:=[] }={ (aD b).getD i (nd 0) with r:=[] }/\((aD a).getD i (nd 0)).r.length=((aD b).getD i (nd 0)).r.length)/\k<=((aD a).getD i (nd 0)).r.length/\∀j,j<k->((aD a).getD i (nd 0)).r.getD j (0,0)=((aD b).getD i (nd 0)).r.getD j (0,0)):=λi k=>by unfold OA dg;rw[aC,aC]
 have Q:(aD a).length<=1000000:=o.1;have m:∀i,i<(aD a).length->((aD a).getD i (nd 0)).r.length<=1000000:=λi hi=>o.2 _ (by grind)
 unfold V3;have L:∀(l:List Nd) n,gt (Nd.mk 0 [] 0 0 false 0 0) l n=l.getD n (nd 0):=λ_ _=>rfl
 have s:∀(l:List Rg) n,gt (0,0) l n=l.getD n (0,0):=λ_ _=>rfl
 have D:∀{p q:Bool},oD p q↔p=q:=λ{p q}=>by simp[oD]
 have E:∀{p q:Bool},oD p q=false↔p≠q:=λ{p q}=>by grind
 have J:∀t:ah,dg t=aD t:=λt=>by unfold dg;rw[aC]
 simp only[bL,bC,au,L,s,D,E,bR,Zad,Zan,Zao,ZaW,Zbz,J,G,H,I];generalize aD a=A at*
 generalize aD b=B at*
 have ne:∀i,A.getD i (nd 0)≠B.getD i (nd 0)->false=decide (A=B):=λi h=>by
  grind
 refine⟨o,K,λhl=>?_,λhl=>⟨⟨0,rfl,Zaj _,ω,λj f=>absurd f (Zbo _)⟩,λx N=>⟨λe=>?_,λe=>?_⟩⟩⟩
 ·grind
 ·obtain⟨c1,c2,c3⟩:=N;have g:x<A.length:=ω;have d:(x:Int)<(B.length:Int):=ω;have c:(0:Int)<=(x:Int):=ω;have R:=m x g;have ne:=ne x;generalize hu:A.getD x (nd 0)=u at*
  generalize C:B.getD x (nd 0)=v at*
  refine⟨c,e,c,d,λq=>ne λh=>q (by rw[h]),λq1=>⟨c,e,c,d,λq=>ne λh=>q (by rw[h]),λS=>⟨c,e,c,d,λq=>ne λh=>q (by rw[h]),λT=>⟨c,e,c,d,λq=>ne λh=>q (by rw[h]),λU=>⟨c,e,c,d,λq=>ne λh=>q (by rw[h]),λV=>⟨c,e,c,d,λq=>ne λh=>q (by rw[h]),λW=>⟨c,e,c,d,λq=>ne λh=>q (by rw[h]),λX=>?_⟩⟩⟩⟩⟩⟩⟩;have hw:({ u with r:=[] }:Nd)={ v with r:=[] }:=by grind
  have w:u.r.length=v.r.length:=ω;refine⟨x,⟨0,rfl,⟨c1,c2,c3⟩,g,⟨by grind,by grind⟩,Zaj _,λj f=>absurd f (Zbo _)⟩,λk hk=>?_⟩;obtain⟨_,_,_,F,z⟩:=hk;rw[hu] at F z;rw[C] at z;refine⟨c,e,λek=>⟨c,e,ω,ek,c,d,ω,ω,λq=>ne λh=>?_,λq=>⟨k+1,bK ω,⟨⟨c1,c2,c3⟩,g,⟨by grind,ω⟩,by grind,λj f=>?_⟩,by grind⟩⟩,λek=>⟨x+1,bK ω,⟨ω,c2,λj f=>?_⟩,ω⟩⟩
  ·grind
  ·grind
  ·rcases Zbm j x with h | h
   ·exact c3 j h
   ·rw[show j=x by omega,hu,C];have M:u.r=v.r:=Zdx w λj h1 P=>by
     grind
    obtain⟨Y,Z,u3,u4,u5,u6,u7⟩:=u;obtain⟨v1,v2,v3,v4,v5,v6,v7⟩:=v;grind
 ·grind [List.ext_getElem]
def QkC:Ok Oz:=okZ [I_] f258 Qsb QcK Qsg
theorem Qsh (y:ah) (a:Ja.pre y):V4 y:=by
 have a:dO y:=a;have hk:=a.few;have ge:=UQ y;unfold V4;have d:∀n,gt (ah.mk 0 [] 0 0 false 0 0 []) y.ae n=y.ae.getD n bF:=λ_=>rfl
 simp only[bL,bC,au,d,bR,Zad];refine⟨λh=>by grind,λh=>⟨⟨0,rfl,Zaj _,λj c=>absurd c (Zbo _)⟩,λx f=>⟨λe=>?_,λe=>?_⟩⟩⟩
 ·have b:x<y.ae.length:=ω;obtain⟨k1,_,_⟩:=yP a b;refine⟨ω,e,⟨k1,iP b⟩,λq=>?_,λq=>⟨x+1,bK ω,⟨b,λj c=>?_⟩,ω⟩⟩
  ·grind
  ·grind
 ·grind [List.getElem_of_mem]
def QkD:Ok Ja:=RC dm ϙ trivial Qsh
abbrev vE (n:Nat) (t:ah):Nat×AO D.E:=(n,.cells (D.a_ 15 t) 221 false)
abbrev tkO (n:Nat):Nat×AO D.E:=(n,.tok 15 221)
variable {l:List ah}
def QkF (a:List (AV D.E)) (s:St D.E):C (List ah):=match a with
 | [l]=>az (aL D s 15 l) λl=>.ret (l:List ah)
 | _=>.fail
def ft (l:List ah):List ah:=l.flatMap λk=>if k.op=1 then[] else if k.op=3 then k.ae else[k]
def iU (t:ah) (a:List ah):ah:=.mk t.op t.r t.mn t.mx t.lz t.cap t.nk a
def Jb (t:ah):ah:=match ft t.ae with
 | []=>.mk 1 [] 0 0 false 0 0 []
 | [k]=>k
 | a=>iU t a
def Jc:bh D:=bO 187 ah (λa _=>vp a) (λy=>y.ae.length<=1000000/\(ft y.ae).length<=1000000) (λy=>[.agg (D.a_ 15 y)]) λy=>.agg (D.a_ 15 (lk (Jb y)))
def Qsi (y:Jc.Y):cH D:=⟨[],[],[(58,⟨Nat,[],λx=>[(1,.ptr 0 0),(2,.ptr 1 0),(3,.grow 15 (ft (y.ae.take x)) 2),(4,Qvo x)],[],λ_=>[vE 0 y,vE 1 bF,tkO 2],3,λx=>x<=y.ae.length,λx=>y.ae.length-x⟩)],[],1,[]⟩
def e_:List ah->List ah->List ah
 | _,[]=>[]
 | s,k::l=>if s.any (λx=>vD x k)=true then e_ (s++[k]) l else k::e_ (s++[k]) l
def OB:bh D:=bO 227 (List ah) QkF dT (λy=>[.list 15 y]) λy=>.list 15 (lk (e_ [] y))
def zP (y:List ah) (x:List ah×Nat):Prop:=x.2<=y.length/\x.1.length<=x.2/\x.1++e_ (y.take x.2) (y.drop x.2)=e_ [] y
def Jd (y:List ah) (i k:Nat):Bool:=lk ((y.take k).any λx=>vD x (y.getD i bF))
def Qsk (y:OB.Y):cH D:=⟨[],[],[(58,⟨List ah×Nat,[0],λx=>[(3,.grow 15 x.1 0),(4,Qvo x.2)],[],λ_=>[tkO 0],1,zP y,λx=>y.length-x.2⟩)],[],1,
 [(14922,⟨List ah×Nat,λx=>⟨Nat,[0,4],λk=>[(3,.grow 15 x.1 0),(5,.bool (Jd y x.2 k)),(6,Qvo k)],[],λ_=>[tkO 0],1,λk=>k<=x.2/\x.2<y.length/\zP y x,λk=>x.2-k⟩,none⟩)]⟩
def OC:bh D:=bO 226 (List ah) QkF (λy=>y.length<=1000000/\tP y) (λy=>[.list 15 y]) λy=>.list 15 (bI [] y)
def Qsm (y:OC.Y):cH D:=⟨[],[8],[(58,⟨List ah×Nat,[0],λx=>[(3,.own 0 8 (ag x.1)),(4,Qvo x.2)],[],λx=>[(0,.arr 15 x.1 221 false)],1,sK y,λx=>y.length-x.2⟩)],[],1,[]⟩
def wq (l:List ah):List ah:=bI [] (e_ [] l)
def iV:Nat->List ah->List ah
 | 0,l=>wq l
 | n+1,l=>if (wq l).length<l.length then iV n (wq l) else wq l
def Je (t:ah):ah:=match iV (aF 4 t.ae).length (aF 4 t.ae) with
 | [k]=>k
 | a=>iU t a
def Jf:bh D:=bO 188 ah (λa _=>vp a) (λy=>y.ae.length<=1000000/\dT (aF 4 y.ae)) (λy=>[.agg (D.a_ 15 y)]) λy=>.agg (D.a_ 15 (lk (Je y)))
def Qso (y:Jf.Y):cH D:=⟨[],[],[(58,⟨Nat,[],λx=>[(1,.ptr 0 0),(2,.ptr 1 0),(3,.grow 15 (aF 4 (y.ae.take x)) 2),(5,Qvo x)],[],λ_=>[vE 0 y,vE 1 bF,tkO 2],3,λx=>x<=y.ae.length/\(aF 4 (y.ae.take x)).length<=1000000,λx=>y.ae.length-x⟩),
 (124,⟨List ah,[],λx=>[(1,.ptr 0 0),(2,.ptr 1 0),(3,.list 15 x),(4,.list 15 (lk (wq x)))],[],λ_=>[vE 0 y,vE 1 bF],2,λx=>dT x/\x.length<=(aF 4 y.ae).length/\iV x.length x=iV (aF 4 y.ae).length (aF 4 y.ae),λx=>x.length⟩)],[],1,[]⟩
def Qsq (y:ah):Prop:=π y/\y.op=5
def Jg:bh D:=bO 189 ah (λa _=>vp a) Qsq (λy=>[.agg (D.a_ 15 y)]) λy=>.agg (D.a_ 15 (lk (cV y)))
def Qsr (y:Jg.Y):cH D:=⟨[],[],[],[(7,⟨Unit,[],λ_=>[(1,.ptr 0 0),(2,.ptr 1 0),(3,.ptr 2 0)],[],λ_=>[vE 0 (vq y),vE 1 bF,vE 2 (bG y)],3,λ_=>True,λ_=>0⟩)],1,[]⟩
def V5 (y:ah):Prop:=let a:=lk (Jb y);let q1:=y.ae;let c:=q1.length;let g:=λp:Prop=>RAD (RAC (RAB p));let h:=λp:Prop=>RAB (RAG (RA1 y (RAH q1 p)));let u:=ah.mk 0 [] 0 0 false 0 0 [];(∃z:Nat,[]=ft (List.take z q1)/\0=(z:Int)/\g (false=false/\h ((Iv (z<=c)))))/\(∀x:Nat,let d:=ft (List.take x q1);let f:=aw (x:Int) (ag q1);let e:=gt u d 0;let b:=gt u q1 (x:Int).toNat;let i:=bM d [ah.mk b.op b.r b.mn b.mx b.lz b.cap b.nk b.ae];(Iv (x<=c))->aj f (aG 0 (x:Int)/\f/\aj (aB b.op 1) (∃z:Nat,d=ft (List.take z q1)/\ay .i64 (x:Int) 1=(z:Int)/\g (false=false/\h ((Iv (z<=c/\(c-z)<(c-x)))))) (aj (aB b.op 3) (aG 0 (x:Int)/\f/\bJ (ag (bM d b.ae)) 96/\∃z:Nat,bM d b.ae=ft (List.take z q1)/\ay .i64 (x:Int) 1=(z:Int)/\g (false=false/\h ((Iv (z<=c/\(c-z)<(c-x)))))) (aG 0 (x:Int)/\f/\bJ (ag i) 96/\∃z:Nat,i=ft (List.take z q1)/\ay .i64 (x:Int) 1=(z:Int)/\g (false=false/\h ((Iv (z<=c/\(c-z)<(c-x)))))))) (aj (aB (ag d) 0) (1=a.op/\[]=a.r/\0=a.mn/\0=a.mx/\false=a.lz/\0=a.cap/\0=a.nk/\[]=a.ae/\True) (aj (aB (ag d) 1) (Tt 1 (aw 0 (ag d)/\e.op=a.op/\e.r=a.r/\e.mn=a.mn/\e.mx=a.mx/\e.lz=a.lz/\e.cap=a.cap/\e.nk=a.nk/\e.ae=a.ae/\True)) (y.op=a.op/\y.r=a.r/\y.mn=a.mn/\y.mx=a.mx/\y.lz=a.lz/\y.cap=a.cap/\y.nk=a.nk/\d=a.ae/\True))))
def V6 (y:List ah):Prop:=let e:=y.length;let u:=ah.mk 0 [] 0 0 false 0 0 [];(∃z:(List ah)×Nat,RAH y ([]=z.1/\0=(z.2:Int)/\(Iv (zP y z))))/\(∀x:(List ah)×Nat,let q1:=(x.2:Int);let a:=gt u y q1.toNat;let f:=ah.mk a.op a.r a.mn a.mx a.lz a.cap a.nk a.ae;let g:=([f]:List ah);(Iv (zP y x))->aj (aw q1 (ag y)) (∃z:(List ah)×Nat,(∃c:Nat,RAI y q1 (x.1=z.1/\false=Jd y z.2 c/\0=(c:Int)/\(Iv (c<=z.2/\z.2<e/\zP y z))))/\(∀d:Nat,let h:=Jd y z.2 d;let j:=aw (d:Int) q1;let b:=gt u y (d:Int).toNat;let i:=ah.mk b.op b.r b.mn b.mx b.lz b.cap b.nk b.ae;(Iv (d<=z.2/\z.2<e/\zP y z))->aj j (aj h (∃c:Nat,RAJ y q1 z.1 (true=Jd y z.2 c/\ay .i64 (d:Int) 1=(c:Int)/\(Iv ((c<=z.2/\z.2<e/\zP y z)/\(z.2-c)<(z.2-d))))) (aG 0 (d:Int)/\aw (d:Int) (ag y)/\aG 0 q1/\aw q1 (ag y)/\Iv (dO i/\dO f)/\RA1 b (RAH b.ae (RA1 a (RAH a.ae (RA1 b (RAH b.ae (RA1 a (RAH a.ae (∃c:Nat,aa [y] (aa [q1] (aa [z.1] (vD i f=Jd y z.2 c/\ay .i64 (d:Int) 1=(c:Int)/\(Iv ((c<=z.2/\z.2<e/\zP y z)/\(z.2-c)<(z.2-d)))))))))))))))) (aj (!h) (aG 0 q1/\aw q1 (ag y)/\bJ (ag (bM z.1 g)) 96/\∃c:(List ah)×Nat,RAH y (bM z.1 g=c.1/\ay .i64 q1 1=(c.2:Int)/\(Iv (zP y c/\(e-c.2)<(e-x.2))))) (∃c:(List ah)×Nat,RAH y (z.1=c.1/\ay .i64 q1 1=(c.2:Int)/\(Iv (zP y c/\(e-c.2)<(e-x.2)))))))) (x.1=lk (e_ [] y)/\True))
def V7 (y:List ah):Prop:=let e:=y.length;let j:=λp:Prop=>RAH y p;let u:=ah.mk 0 [] 0 0 false 0 0 [];(∃z:(List ah)×Nat,j (0=ag z.1/\0=(z.2:Int)/\[]=z.1/\(Iv (sK y z))))/\(∀x:(List ah)×Nat,let d:=ag x.1;let b:=(x.2:Int);let c:=cx .i64 d 1;let a:=gt u y b.toNat;let f:=gt u x.1 c.toNat;let g:=bM (bM [] f.r) a.r;let h:=bM x.1 [ah.mk a.op a.r a.mn a.mx a.lz a.cap a.nk a.ae];let i:Prop:=(aG 0 b/\aw b (ag y)/\bJ (ag h) 96/\∃z:(List ah)×Nat,j (ag h=ag z.1/\ay .i64 b 1=(z.2:Int)/\h=z.1/\(Iv (sK y z/\(e-z.2)<(e-x.2)))));(Iv (sK y x))->aj (aw b (ag y)) (aj (aw 0 d) (aG 0 c/\aw c d/\aj (aB f.op 2) (aG 0 b/\aw b (ag y)/\aj (aB a.op 2) (aG 0 c/\aw c d/\bJ (ag (bM [] f.r)) 8/\aG 0 b/\aw b (ag y)/\bJ (ag g) 8/\Iv (g.length<=2000000)/\RAH g (aG 0 c/\aw c d/\aa [f.r,a.r,a.r] (∃z:(List ah)×Nat,j (d=ag z.1/\ay .i64 b 1=(z.2:Int)/\cS x.1 c.toNat (ah.mk 2 (aU g) 0 0 false 0 0 [])=z.1/\(Iv (sK y z/\(e-z.2)<(e-x.2))))))) (i)) (i)) (i)) (x.1=bI [] y/\True))
def V8 (y:ah):Prop:=let d:=lk (Je y);let q1:=y.ae;let m:=(aF 4 q1).length;let n:=λp:Prop=>RAB (RAG (RA1 y (RAH q1 p)));let o:=λp:Prop=>RAD (RAC (RAB p));let A:=ah.mk 0 [] 0 0 false 0 0 [];(∃z:Nat,let u:=aF 4 (List.take z q1);[]=u/\0=(z:Int)/\o (false=false/\n ((Iv (z<=q1.length/\u.length<=1000000)))))/\(∀x:Nat,let g:=q1.length;let q:=aw (x:Int) (ag q1);let f:=aF 4 (List.take x q1);let s:=lk (e_ [] f);let a:=gt A q1 (x:Int).toNat;let i:=bM f [ah.mk a.op a.r a.mn a.mx a.lz a.cap a.nk a.ae];(Iv (x<=g/\f.length<=1000000))->aj q (aG 0 (x:Int)/\q/\aj (aB a.op 4) (aG 0 (x:Int)/\q/\bJ (ag (bM f a.ae)) 96/\∃z:Nat,let j:=aF 4 (List.take z q1);bM f a.ae=j/\ay .i64 (x:Int) 1=(z:Int)/\o (false=false/\n ((Iv ((z<=g/\j.length<=1000000)/\(g-z)<(g-x)))))) (aG 0 (x:Int)/\q/\bJ (ag i) 96/\∃z:Nat,let k:=aF 4 (List.take z q1);i=k/\ay .i64 (x:Int) 1=(z:Int)/\o (false=false/\n ((Iv ((z<=g/\k.length<=1000000)/\(g-z)<(g-x))))))) (Iv (dT f)/\RAH f (Iv (s.length<=1000000/\tP s)/\aa [s] ((∃z:List ah,f=z/\bI [] s=lk (wq z)/\o (false=false/\n ((Iv (dT z/\z.length<=m/\iV z.length z=iV m (aF 4 q1))))))/\(∀h:List ah,let b:=lk (wq h);let e:=lk (e_ [] b);let t:=aw (ag b) (ag h);let c:=gt A b 0;let l:=iV m (aF 4 q1);(Iv (dT h/\h.length<=m/\iV h.length h=l))->aj t (Iv (dT b)/\aa [b] (Iv (e.length<=1000000/\tP e)/\aa [e] (∃z:List ah,b=z/\bI [] e=lk (wq z)/\o (false=false/\n ((Iv ((dT z/\z.length<=m/\iV z.length z=l)/\z.length<h.length))))))) (aj (aB (ag b) 1) (Tt 1 (aw 0 (ag b)/\c.op=d.op/\c.r=d.r/\c.mn=d.mn/\c.mx=d.mx/\c.lz=d.lz/\c.cap=d.cap/\c.nk=d.nk/\c.ae=d.ae/\True)) (y.op=d.op/\y.r=d.r/\y.mn=d.mn/\y.mx=d.mx/\y.lz=d.lz/\y.cap=d.cap/\y.nk=d.nk/\b=d.ae/\True)))))))
def V9 (y:ah):Prop:=let a:=bG y;let q1:=lk (cV y);let d:=a.ae;let u:=ah.mk 0 [] 0 0 false 0 0 [];let c:=gt u y.ae 0;let n:=aB (gt u d 0).op 2;let i:=y.lz&&(decide (Ne y.mn y.mx));let j:=ah.mk a.op a.r a.mn a.mx a.lz a.cap a.nk d;let l:=λp:Prop=>RAD (RAC (RAB p));let m:=λp:Prop=>RAB (RAG (RAK y.op y.r y.mn y.mx p));let k:Prop:=(RAJ y.cap y.nk y.ae ((Iv True)));let e:Prop:=(a.mx=q1.mx/\a.lz=q1.lz/\a.cap=q1.cap/\a.nk=q1.nk/\d=q1.ae/\True);let f:Prop:=(a.op=q1.op/\a.r=q1.r/\a.mn=q1.mn/\e);let b:Prop:=(y.op=q1.op/\y.r=q1.r/\y.mn=q1.mn/\y.mx=q1.mx/\i=q1.lz/\y.cap=q1.cap/\y.nk=q1.nk/\y.ae=q1.ae/\True);let g:Prop:=(aj (aB a.op 5) (Tt 1 (aw 0 (ag d)/\aj n (aj (!i) (aj (!a.lz) (aj (aB y.mx (-1)) (aj (aB a.mx (-1)) (aj (aG y.mn 1) (aj (aG a.mn 1) (a.op=q1.op/\a.r=q1.r/\gG .i64 a.mn y.mn=q1.mn/\e) (b)) (b)) (b)) (b)) (b)) (b)) (b))) (b));let h:Prop:=(aj (aB y.mx 0) (Iv (dO j)/\RA1 a (RAH d (aj (!(fo j)) (1=q1.op/\[]=q1.r/\0=q1.mn/\0=q1.mx/\false=q1.lz/\0=q1.cap/\0=q1.nk/\[]=q1.ae/\True) (g)))) (g));Tt 1 (aw 0 (ag y.ae)/\(aj (aB y.mn y.mx) (∃z:Unit,c.op=a.op/\c.r=a.r/\c.mn=a.mn/\c.mx=a.mx/\c.lz=a.lz/\c.cap=a.cap/\c.nk=a.nk/\c.ae=d/\l (false=false/\m (false=i/\k))) (∃z:Unit,c.op=a.op/\c.r=a.r/\c.mn=a.mn/\c.mx=a.mx/\c.lz=a.lz/\c.cap=a.cap/\c.nk=a.nk/\c.ae=d/\l (false=false/\m (y.lz=i/\k))))/\(∀x:Unit,(Iv True)->aj (aB a.op 1) (f) (aj (aB y.mn 1) (aj (aB y.mx 1) (f) (h)) (h))))
theorem fields {a b:ah} (h:b=a):a.op=b.op/\a.r=b.r/\a.mn=b.mn/\a.mx=b.mx/\a.lz=b.lz/\a.cap=b.cap/\a.nk=b.nk/\a.ae=b.ae:=by
 grind
def yQ (t:ah) (a:List ah):t.op=(iU t a).op/\t.r=(iU t a).r/\t.mn=(iU t a).mn/\t.mx=(iU t a).mx/\t.lz=(iU t a).lz/\t.cap=(iU t a).cap/\t.nk=(iU t a).nk/\a=(iU t a).ae:=⟨rfl,rfl,rfl,rfl,rfl,rfl,rfl,rfl⟩
theorem OD (a b:List ah):ft (a++b)=ft a++ft b:=by grind [ft]
theorem Jh {x:Nat} (a:x<l.length):ft (l.take (x+1))=ft (l.take x)++(if (l.getD x bF).op=1 then[] else if (l.getD x bF).op=3 then(l.getD x bF).ae else[l.getD x bF])/\(ft (l.take (x+1))).length<=(ft l).length:=by
 constructor
 ·grind [cq,ft]
 ·grind [List.take_append_drop,OD]
theorem Qst (y:ah) (f:Jc.pre y):V5 y:=by
 obtain⟨h1,g⟩:y.ae.length<=1000000/\(ft y.ae).length<=1000000:=f;unfold V5;have d:∀(l:List ah) n,gt (ah.mk 0 [] 0 0 false 0 0 []) l n=l.getD n bF:=λ_ _=>rfl
 simp only[bL,bC,au,aT,br,d,bR,Zad,aC];refine⟨⟨0,by rfl,rfl,Zaj _⟩,λx i=>⟨λe=>?_,λe=>?_⟩⟩
 ·have c:x<y.ae.length:=ω;have⟨j,m⟩:=Jh c;grind
 ·rw[show x=y.ae.length by omega,ZaM];unfold Jb
  match ft y.ae with
  | []=>exact⟨λ_=>⟨rfl,rfl,rfl,rfl,rfl,rfl,rfl,rfl⟩,λh=>absurd rfl h⟩
  | [k]=>exact⟨λh=>by simp at h,λ_=>⟨λ_=>⟨by simp,rfl,rfl,rfl,rfl,rfl,rfl,rfl,rfl⟩,λh=>by simp at h⟩⟩
  | a::b::l=>exact⟨λh=>by grind,λ_=>⟨λh=>by grind,λ_=>yQ _ _⟩⟩
def QkG:Ok Jc:=okZ [] f187 Qsi trivial Qst
theorem n9:∀(l s:List ah),(e_ s l).Sublist l
 | [],s=>List.Sublist.refl _
 | k::l,s=>by
  rw[e_];split
  ·exact(n9 l _).cons _
  ·exact(n9 l _).cons₂ _
theorem Ji:∀{l m:List ah},l.Sublist m->∀{n:Nat},NL n (aA m)->NL n (aA l)
 | _,_,.slnil,_,h=>h
 | _,_,.cons a hs,_,h=>by
  have⟨p1,p2,p3⟩:=nW h;have:=Ji hs p2;exact this.to ω
 | _,_,.cons₂ a hs,_,h=>by
  have⟨p1,p2,p3⟩:=nW h;have:=Ji hs p2;exact(p1.app this).to p3
def Jj (h:dT l):dT (e_ [] l)/\(e_ [] l).length<=l.length:=⟨Ji (n9 l []) h,(n9 l []).length_le⟩
theorem Qsu (y:List ah) (b:OB.pre y):V6 y:=by
 have hl:=b.len;have c:∀i k,Jd y i k=(y.take k).any λx=>vD x (y.getD i bF):=λi k=>by grind [Jd,aC]
 unfold V6;have h:∀(l:List ah) n,gt (ah.mk 0 [] 0 0 false 0 0 []) l n=l.getD n bF:=λ_ _=>rfl
 simp only[bL,bC,au,aT,br,h,bR,Zad,aC,Zan,Zao,c];refine⟨⟨([],0),rfl,rfl,Zaj _,Zah _,rfl⟩,λx a=>⟨λe=>⟨x,⟨0,rfl,rfl,rfl,Zaj _,ω,a⟩,λk hk=>⟨λek=>?_,λek=>?_⟩⟩,λe=>?_⟩⟩
 ·have⟨k1,k2,_⟩:=hk;have j:k<y.length:=ω;have ht:∀f:ah->Bool,(y.take (k+1)).any f=((y.take k).any f||f (y.getD k bF)):=λf=>by grind [cq]
  refine⟨λq=>⟨k+1,by grind,bK ω,⟨ω,k2,a⟩,ω⟩,λq=>⟨ω,ω,ω,e,⟨b.get j,b.get k2⟩,k+1,by grind,bK ω,⟨ω,k2,a⟩,ω⟩⟩
 ·have⟨k1,k2,_⟩:=hk;have:k=x.2:=ω;subst this;have⟨i1,i2,i3⟩:=a;have g:y.drop x.2=y.getD x.2 bF::y.drop (x.2+1):=by simp_all
  rw[g,e_] at i3;have d:y.take x.2++[y.getD x.2 bF]=y.take (x.2+1):=(cq bF k2).symm;rw[d] at i3;refine⟨λq=>?_,λq=>?_⟩
  ·exact⟨ω,e,by grind,(x.1++[y.getD x.2 bF],x.2+1),rfl,bK ω,⟨k2,by grind,by grind⟩,show y.length-(x.2+1)<y.length-x.2 by omega⟩
  ·rw[Zac q] at i3;exact⟨(x.1,x.2+1),rfl,bK ω,⟨k2,by grind,i3⟩,show y.length-(x.2+1)<y.length-x.2 by omega⟩
 ·have⟨i1,i2,i3⟩:=a;grind [e_]
def QkH:Ok OB:=okZ [Oz] f227 Qsk QkC Qsu
theorem Qsv (y:List ah) (p:OC.pre y):V7 y:=by
 obtain⟨hl,j⟩:y.length<=1000000/\tP y:=p;unfold V7;have f:∀(l:List ah) n,gt (ah.mk 0 [] 0 0 false 0 0 []) l n=l.getD n bF:=λ_ _=>rfl
 simp only[bL,bC,au,aT,br,f,bR,Zad,Zcb];refine⟨⟨([],0),rfl,rfl,rfl,Zaj _,rfl,Zah _,λt ht=>nomatch ht⟩,λx m=>?_⟩;have⟨o,i⟩:=x;obtain⟨c1,c2,c3,c4⟩:i<=y.length/\bI o (y.drop i)=bI [] y/\o.length<=i/\tP o:=m;simp only;refine⟨λe=>?_,λe=>?_⟩
 ·have d:y.drop i=y.getD i bF::y.drop (i+1):=by simp_all
  have hk:(y.getD i bF).r.length<=1000000:=j _ (by grind);rw[d,bI] at c2;have s:=jk o (y.getD i bF);have q:=E0 c4 hk;have step:∀z,z=dL o (y.getD i bF)->sK y (z,i+1)/\y.length-(i+1)<y.length-i:=λz hz=>by
   subst hz;exact⟨⟨show i+1<=y.length by omega,c2,show(dL o (y.getD i bF)).length<=i+1 by omega,q⟩,ω⟩
  generalize y.getD i bF=k at*
  have b:¬(o.length≠0/\k.op=2/\(ox o).op=2)->(0:Int)<=(i:Int)/\(i:Int)<(y.length:Int)/\(((o++[k]).length:Nat):Int)*(96:Nat)<=140737488355328/\∃z:List ah×Nat,(((o++[k]).length:Nat):Int)=((z.1.length:Nat):Int)/\ay .i64 (i:Int) 1=(z.2:Int)/\o++[k]=z.1/\sK y z/\y.length-z.2<y.length-i:=λh=>by
   grind [dL]
  refine⟨λh0=>?_,λh0=>b λh=>h.1 ω⟩;rw[A0 ω ω];have c:o.getD (((o.length-1:Nat):Int).toNat) bF=ox o:=rfl;have g:(ox o).r.length<=1000000:=c4 _ (by grind);simp only[c];refine⟨ω,ω,λh1=>⟨ω,e,λa=>⟨ω,ω,ω,ω,e,by grind,by grind,ω,ω,(dL o k,i+1),?_,bK ω,?_,step _ rfl⟩,λa=>b λh=>a h.2.1⟩,λh1=>b λh=>h1 h.2.2⟩
  ·grind [dL]
  ·unfold dL;rw[Zac ⟨ω,a,h1⟩];rfl
 ·grind [bI]
def QkI:Ok OC:=okZ [lW] f226 Qsm (HB ri) Qsv
def QkJ (h:dT l):dT (wq l)/\(wq l).length<=l.length:=by
 have⟨c,d⟩:=Jj h;have⟨a,b⟩:=Ll c;exact⟨a,Zav b d⟩
theorem FB:∀(n m:Nat) (l:List ah),l.length<=n->l.length<=m->iV n l=iV m l
 | 0,0,l,_,_=>rfl
 | 0,m+1,l,h,_=>by grind [iV]
 | n+1,0,l,_,h=>by grind [iV]
 | n+1,m+1,l,h1,a=>by
  rw[iV,iV];split
  ·exact FB n m _ ω ω
  ·rfl
theorem V' (h:(wq l).length<l.length):iV (wq l).length (wq l)=iV l.length l:=by
 obtain⟨k,hk⟩:∃k,l.length=k+1:=⟨l.length-1,ω⟩;grind [iV,FB]
theorem ϟ (h:¬(wq l).length<l.length):iV l.length l=wq l:=by
 cases hl:l.length with
 | zero=>rfl
 | succ k=>rw[iV,Zaa h]
theorem FC (op:Int) {x:Nat} (a:x<l.length):aF op (l.take (x+1))=aF op (l.take x)++(if (l.getD x bF).op=op then(l.getD x bF).ae else[l.getD x bF]):=by
 grind [cq,aF]
theorem Qsw (y:ah) (t:Jf.pre y):V8 y:=by
 obtain⟨h1,f⟩:y.ae.length<=1000000/\dT (aF 4 y.ae):=t;unfold V8;have s:∀(l:List ah) n,gt (ah.mk 0 [] 0 0 false 0 0 []) l n=l.getD n bF:=λ_ _=>rfl
 simp only[bL,bC,au,aT,br,s,bR,Zad,aC];refine⟨⟨0,by rfl,rfl,ω,by simp[aF]⟩,λx w=>⟨λe=>?_,λe=>?_⟩⟩
 ·have r:x<y.ae.length:=ω;have B:=FC 4 r;have C:=la 4 y.ae (x+1);have s3:=f.len;grind
 ·have i:x=y.ae.length:=ω;subst i;rw[ZaM];have⟨q,A⟩:=Jj f;refine⟨f,⟨q.len,q.rt⟩,⟨_,rfl,rfl,f,Zah _,rfl⟩,λl hl=>⟨λc=>?_,λc=>?_⟩⟩
  ·have⟨p,u,g⟩:=hl;have⟨j,z⟩:=QkJ p;have⟨o,v⟩:=Jj j;have d:(wq l).length<l.length:=ω;exact⟨j,⟨o.len,o.rt⟩,_,rfl,rfl,⟨j,ω,by rw[V' d,g]⟩,d⟩
  ·have⟨p,u,g⟩:=hl;have d:¬(wq l).length<l.length:=ω;rw[ϟ d] at g;unfold Je;rw[<-g]
   match wq l with
   | []=>exact⟨λh=>by simp at h,λ_=>yQ _ _⟩
   | [k]=>exact⟨λ_=>⟨by simp,rfl,rfl,rfl,rfl,rfl,rfl,rfl,rfl⟩,λh=>by simp at h⟩
   | a::b::m=>exact⟨λh=>by grind,λ_=>yQ _ _⟩
def QkK:Ok Jf:=okZ [OB,OC] f188 Qso ⟨QkH,QkI⟩ Qsw
theorem Qsx (y:ah) (v:Jg.pre y):V9 y:=by
 obtain⟨⟨h1,p,F,s⟩,t⟩:π y/\y.op=5:=v;unfold V9;have u:∀(l:List ah) n,gt (ah.mk 0 [] 0 0 false 0 0 []) l n=l.getD n bF:=λ_ _=>rfl
 have hk:y.ae.getD 0 bF=bG y:=rfl;have j:(bG y).ae.getD 0 bF=bG (bG y):=rfl;simp only[bL,bC,au,u,hk,j,bR,aC,Zan,Zao,ZaY,ZaZ];have R:¬(bG y).op=1->¬(y.mn=1/\y.mx=1)->¬(y.mx=0/\fo (bG y)=false)->cV y=if (y.lz&&decide (y.mn≠y.mx))=false/\y.mx= -1/\y.mn<=1/\(bG y).op=5/\(bG y).lz=false/\(bG y).mx= -1/\(bG y).mn<=1/\(bG (bG y)).op=2 then EY (bG y) y.mn else vq y:=λa b c=>by
  unfold cV;have c:(eN (Lk (vq y))/\eN (Lk (bG y))/\(bG (bG y)).op=2)↔((y.lz&&decide (y.mn≠y.mx))=false/\y.mx= -1/\y.mn<=1/\(bG y).op=5/\(bG y).lz=false/\(bG y).mx= -1/\(bG y).mn<=1/\(bG (bG y)).op=2):=by
   have E:eN (Lk (vq y))=(!(y.lz&&decide (y.mn≠y.mx))&&y.mx==-1&&decide (y.mn<=1)):=by
    show(y.op==5&&_&&_&&_)=_
    rw[t];rfl
   grind [eN,Lk]
  grind
 have q:(bG y).op=1->cV y=bG y:=λh=>by grind [cV]
 have r:¬(bG y).op=1->y.mn=1->y.mx=1->cV y=bG y:=λh a b=>by grind [cV]
 have o:¬(bG y).op=1->¬(y.mn=1/\y.mx=1)->y.mx=0->fo (bG y)=false->cV y=.mk 1 [] 0 0 false 0 0 []:=λh a b c=>by grind [cV]
 have M:(bG y).op=5->y.mn<=1->(bG y).mn<=1->gG .i64 (bG y).mn y.mn=(bG y).mn*y.mn:=λa b c=>by
  grind
 refine⟨ω,⟨λe=>?_,λe=>?_⟩,λd=>fields (q d),λd=>⟨λm1=>⟨λm2=>fields (r d m1 m2),λm2=>⟨λi=>⟨p,λg=>fields (o d ω i g),λg=>?_⟩,λi=>?_⟩⟩,λm1=>⟨λi=>⟨p,λg=>fields (o d ω i g),λg=>?_⟩,λi=>?_⟩⟩⟩
 ·grind
 ·simp[e]
 all_goals
  have e:=R d ω (by first | (intro h;omega) | (intro h;rw[g] at h;exact absurd h.2 (by simp)));refine⟨λk5=>⟨by have:=(s k5).2;omega,λk2=>⟨λz=>⟨λk=>⟨λmx=>⟨λf=>⟨λa=>⟨λb=>?_,λb=>?_⟩,λa=>?_⟩,λf=>?_⟩,λmx=>?_⟩,λk=>?_⟩,λz=>?_⟩,λk2=>?_⟩,λk5=>?_⟩
  ·rw[Zac ⟨z,mx,a,k5,k,f,b,k2⟩] at e;rw[e,M k5 a b];exact⟨rfl,rfl,rfl,rfl,rfl,rfl,rfl,rfl⟩
  all_goals
   rw[Zaa (by rintro⟨B,G,C,x,m,A,D,w⟩;first | omega | exact absurd (B.symm.trans z) ZaS | exact absurd (m.symm.trans k) ZaS)] at e;rw[e];exact⟨rfl,rfl,rfl,rfl,rfl,rfl,rfl,rfl⟩
def QkL:Ok Jg:=okZ [Ja] f189 Qsr QkD Qsx
mutual
def CU:ah->Bool
 | .mk op _ mn mx _ _ _ ks=>if op=1 then true else if op=3 then qI ks else if op=5 then(if mx=0 then true else decide (mn=mx)&&CW ks) else false
def qI:List ah->Bool
 | []=>true
 | t::l=>CU t&&qI l
def CW:List ah->Bool
 | []=>false
 | t::_=>CU t
end
def jS (t:ah):Bool:=lk (CU t)
def F8 (y:ah):Prop:=dO y/\ku y
def FD:bh D:=bO 229 ah (λa _=>vp a) F8 (λy=>[.agg (D.a_ 15 y)]) λy=>.bool (jS y)
def Qsy (y:FD.Y):cH D:=⟨[],[],[(3442,⟨Nat,[],λx=>[(1,.ptr 0 0),(3,Qvo x)],[],λ_=>[tbx y],1,λx=>x<=y.ae.length/\qI (y.ae.drop x)=qI y.ae,λx=>y.ae.length-x⟩)],[],1,[]⟩
def Qsz (y:FD.Y):Prop:=vc [FD.under dm (dm y)] f229 FD Qsy y
structure dr where
 af:List aW
 bU:Bool
def bH (y:dr) (i:aW):dr×Int:=if 400<=y.af.length then(⟨y.af,true⟩,0) else(⟨y.af++[i],y.bU⟩,y.af.length)
def ly (y:dr) (lz:Bool) (j:Int):dr:=if y.bU=true then y else⟨fx y.af.length lz y.af j,false⟩
def dZ (g:List aW->Int->List aW) (y:dr) (a:List Int):dr:=if y.bU=true then y else⟨a.foldl g y.af,false⟩
def n' (f:dr->dr) (q:Bool):Nat->dr->dr
 | 0,s=>s
 | n+1,s=>if s.bU\/q=true then s else n' f q n (f s)
def jT (f:dr->dr):Nat->dr->List Int->dr×List Int
 | 0,s,j=>(s,j)
 | n+1,s,j=>if s.bU=true then(s,j) else jT f n (f (bH s ⟨2,0,0,[]⟩).1) (j++[(bH s ⟨2,0,0,[]⟩).2])
def Bp (f:dr->dr) (lz:Bool) (s:dr):dr:=ly (bH (f (bH s ⟨2,0,0,[]⟩).1) ⟨3,(bH s ⟨2,0,0,[]⟩).2,0,[]⟩).1 lz (bH s ⟨2,0,0,[]⟩).2
def yR (f:dr->dr) (q:Bool) (mn mx:Int) (lz:Bool) (s:dr):dr:=
 if mx= -1 then Bp f lz (n' f q mn.toNat s)
 else dZ (fx (jT f (lj mn mx) (n' f q mn.toNat s) []).1.af.length lz) (jT f (lj mn mx) (n' f q mn.toNat s) []).1 (jT f (lj mn mx) (n' f q mn.toNat s) []).2
def vF (f:dr->dr) (s:dr):dr×Int:=(ly (bH (f (bH s ⟨2,0,0,[]⟩).1) ⟨3,0,0,[]⟩).1 false (bH s ⟨2,0,0,[]⟩).2,(bH (f (bH s ⟨2,0,0,[]⟩).1) ⟨3,0,0,[]⟩).2)
mutual
def i_:ah->dr->dr
 | .mk op r mn mx lz cap _ ks,s=>if s.bU=true then s
  else if op=2 then(bH s ⟨1,0,0,r⟩).1
  else if op=3 then lB ks s
  else if op=4 then dZ (ll (fX ks s []).1.af.length) (fX ks s []).1 (fX ks s []).2
  else if op=5 then yR (λs=>Pk ks s) (CW ks) mn mx lz s
  else if op=6 then(bH (Pk ks (bH s ⟨4,2*cap,0,[]⟩).1) ⟨4,2*cap+1,0,[]⟩).1
  else if op=7 then(bH s ⟨5,0,0,[]⟩).1
  else if op=8 then(bH s ⟨6,0,0,[]⟩).1 else s
def lB:List ah->dr->dr
 | [],s=>s
 | t::l,s=>if s.bU=true then s else lB l (i_ t s)
def Pk:List ah->dr->dr
 | [],s=>s
 | t::_,s=>i_ t s
def fX:List ah->dr->List Int->dr×List Int
 | [],s,j=>(s,j)
 | t::l,s,j=>if s.bU=true then(s,j) else if l.isEmpty=true then(i_ t s,j) else fX l (vF (λs=>i_ t s) s).1 (j++[(vF (λs=>i_ t s) s).2])
end
def Jk (n:Nat) (y:dr):List (Nat×AO D.E):=[(0,.cells [.own n 4 (ag y.af),.bool y.bU] 228 false),(n,.arr 8 y.af 203 false)]
def V_ (v:AV D.E) (s:St D.E):C dr:=match v with
 | .ptr b _=>az (cR (s.h.get b)) λo=>match o with
  | .cells cs _ _=>match cs with
   | [c,b]=>az (aL D s 8 c) λc=>aP (zh b) λb _=>.ret ⟨c,b⟩
   | _=>.fail
  | _=>.fail
 | _=>.fail
def zQ:bh D:=⟨132,dr×aW,λa s=>match a with
 | [p,i]=>az (V_ p s) λy=>az (QcA i) λi=>.ret (y,i)
 | _=>.fail,λy=>y.1.af.length<=400,λy=>[.ptr 0 0,.agg (D.a_ 8 y.2)],λy=>Jk 1 y.1,λy=>Qvo (bH y.1 y.2).2,λy=>Jk 2 (bH y.1 y.2).1,2,3⟩
def Wa:bh D:=⟨230,dr×Int×Int×Bool,λa s=>match a with
 | [p,i,o,b]=>az (V_ p s) λy=>aP (cT i) λ_ i=>aP (cT o) λ_ o=>aP (zh b) λb _=>.ret (y,i,o,b)
 | _=>.fail,λy=>y.1.af.length<=1000/\0<=y.2.1/\y.2.1<y.1.af.length,λy=>[.ptr 0 0,Qvo y.2.1,Qvo y.2.2.1,.bool y.2.2.2],λy=>Jk 1 y.1,λ_=>.tuple [],λy=>Jk 1 ⟨fx y.2.2.1 y.2.2.2 y.1.af y.2.1,y.1.bU⟩,2,2⟩
def Wb (y:ah):Prop:=let b:=y.ae;let u:=ah.mk 0 [] 0 0 false 0 0 [];let q1:=gt u b 0;let d:=ah.mk q1.op q1.r q1.mn q1.mx q1.lz q1.cap q1.nk q1.ae;let g:=λp:Prop=>RA1 y (RAH b p);aj (aB y.op 1) (true=jS y/\True) (aj (aB y.op 3) ((∃z:Nat,0=(z:Int)/\g ((Iv (z<=b.length/\qI (List.drop z b)=qI b))))/\(∀x:Nat,let c:=b.length;let f:=aw (x:Int) (ag b);let a:=gt u b (x:Int).toNat;let e:=ah.mk a.op a.r a.mn a.mx a.lz a.cap a.nk a.ae;(Iv (x<=c/\qI (List.drop x b)=qI b))->aj f (aG 0 (x:Int)/\f/\Iv (F8 e/\dm e<dm y)/\RA1 a (RAH a.ae (aj (!(jS e)) (false=jS y/\True) (∃z:Nat,ay .i64 (x:Int) 1=(z:Int)/\g ((Iv ((z<=c/\qI (List.drop z b)=qI b)/\(c-z)<(c-x)))))))) (true=jS y/\True))) (aj (aB y.op 5) (aj (aB y.mx 0) (true=jS y/\True) (aj (aB y.mn y.mx) (Tt 1 (aw 0 (ag b)/\Iv (F8 d/\dm d<dm y)/\RA1 q1 (RAH q1.ae (jS d=jS y/\True)))) (false=jS y/\True))) (false=jS y/\True)))
def Ϡ:∀y,Wb y=Qsz y:=λy=>by kernel_rfl
def QcL (y:dr×aW):Prop:=let b:=ag y.1.af;let q1:=ag (bH y.1 y.2).1.af;let a:=bM y.1.af [y.2];aj (aG 400 b) (0=(bH y.1 y.2).2/\b=q1/\true=(bH y.1 y.2).1.bU/\y.1.af=(bH y.1 y.2).1.af/\True) (bJ (ag a) 48/\RAL b y.2.op y.2.x y.2.y y.2.bm (cx .i64 (ag a) 1=(bH y.1 y.2).2/\ag a=q1/\y.1.bU=(bH y.1 y.2).1.bU/\a=(bH y.1 y.2).1.af/\True))
def QcM (y:dr×Int×Int×Bool):Prop:=let a:=ag y.1.af;let q1:=y.2.1.toNat;let h:=ay .i64 y.2.1 1;let d:=gt (aW.mk 0 0 0 []) y.1.af q1;let c:=fx y.2.2.1 y.2.2.2 y.1.af y.2.1;let i:=cS y.1.af q1 (aW.mk d.op h d.y d.bm);let e:=gt (aW.mk 0 0 0 []) i q1;let f:=cS i q1 (aW.mk e.op e.x y.2.2.1 e.bm);let g:=gt (aW.mk 0 0 0 []) f q1;let j:=cS f q1 (aW.mk g.op y.2.2.1 g.y g.bm);let b:=gt (aW.mk 0 0 0 []) j q1;aG 0 y.2.1/\aw y.2.1 a/\aG 0 y.2.1/\aw y.2.1 a/\RAI a a (aj y.2.2.2 (aG 0 y.2.1/\aw y.2.1 a/\aG 0 y.2.1/\aw y.2.1 a/\aa [a,a] (a=ag c/\aa [y.1.bU] (cS j q1 (aW.mk b.op b.x h b.bm)=c/\True))) (a=ag c/\aa [y.1.bU] (f=c/\True)))
def F8.Vs {y:ah} (h:F8 y) {x:Nat} (a:x<y.ae.length):F8 (y.ae.getD x bF):=⟨(yP h.1 a).1,((iQ y).mp h.2).2.2.mem a⟩
def QfC (t:ah):CU t=if t.op=1 then true else if t.op=3 then qI t.ae else if t.op=5 then(if t.mx=0 then true else decide (t.mn=t.mx)&&CW t.ae) else false:=by cases t;rw[CU];rfl
theorem LJ {l:List ah} (h:0<l.length):CW l=CU (l.getD 0 bF):=by
 cases l with
 | nil=>cases h
 | cons t l=>rw[CW];rfl
theorem QkM (y:ah) (b:FD.pre y):Wb y:=by
 have b:F8 y:=b;have hk:=b.1.few;have i:∀t,jS t=CU t:=λt=>by grind [jS,aC]
 unfold Wb;have o:∀(l:List ah) n,gt (ah.mk 0 [] 0 0 false 0 0 []) l n=l.getD n bF:=λ_ _=>rfl
 simp only[bL,bC,au,o,bR,Zad,Zan,Zao,i];have q:=QfC y;refine⟨λd=>by grind,λd=>⟨λf=>⟨⟨0,rfl,Zaj _,rfl⟩,λx p=>⟨λe=>?_,λe=>?_⟩⟩,λf=>⟨λh=>⟨λm=>?_,λm=>⟨λm2=>?_,λm2=>?_⟩⟩,λh=>?_⟩⟩⟩
 ·rw[Zaa d,Zac f] at q;have c:x<y.ae.length:=ω;have k:y.ae.drop x=y.ae.getD x bF::y.ae.drop (x+1):=by simp_all
  have j:=p.2;rw[k,qI] at j;refine⟨ω,e,⟨b.Vs c,iP c⟩,λg=>?_,λg=>⟨x+1,bK ω,⟨c,?_⟩,ω⟩⟩
  ·grind
  ·grind
 ·grind [qI]
 ·grind
 ·have a:0<y.ae.length:=by
   have:=(((iQ y).mp b.2).1.rep h).1;grind
  rw[q,Zaa d,Zaa f,Zac h,Zaa m,LJ a];exact⟨ω,⟨b.Vs a,iP a⟩,by simp[m2]⟩
 ·grind
 ·grind
def QkN:Ok FD:=RC dm Ϡ trivial QkM
theorem LK:Ok zQ:=okZ (V:=QcL) [] f132 (λ_=>dY ()) trivial λy a=>by
 grind [QcL,bH]
def QkO:Ok Wa:=okZ (V:=QcM) [] f230 (λ_=>dY ()) trivial λy f=>by
 obtain⟨m,a,o,lz⟩:=y;obtain⟨h1,b,c⟩:m.af.length<=1000/\0<=a/\a<m.af.length:=f;have hi:a.toNat<m.af.length:=ω;unfold QcM;simp only[bC,fm,dA,au,ep,CK hi,tT];have e:ay .i64 a 1=a+1:=ba ω ω;have d:gt (aW.mk 0 0 0 []) m.af a.toNat=m.af.getD a.toNat in0:=rfl;refine⟨b,c,b,c,λh=>⟨b,c,b,c,?_⟩,λh=>?_⟩
 ·simp only[e,d,h,fx,Zbv];rfl
 ·simp only[e,d,h,fx,ZaE,Za0];rfl
structure Gw (s t:dr):Prop where
 len:s.af.length<=t.af.length
 max:s.af.length<=400->t.af.length<=400
 bU:s.bU=true->t.bU=true
variable {Z:dr->dr} {s Y:dr}
theorem Gw.refl (s:dr):Gw s s:=⟨Zah _,id,id⟩
def Gw.trans {u:dr} (h:Gw s Y) (k:Gw Y u):Gw s u:=⟨Zav h.len k.len,λe=>k.max (h.max e),λe=>k.bU (h.bU e)⟩
theorem Gw.low (h:Gw s Y) (e:Y.bU=false):s.bU=false:=by
 cases a:s.bU with
 | false=>rfl
 | true=>rw[h.bU a] at e;cases e
theorem eU (s:dr) (i:aW):Gw s (bH s i).1/\((bH s i).1.bU=false->s.af.length<400/\(bH s i).2=s.af.length/\(bH s i).1=⟨s.af++[i],false⟩):=by
 unfold bH;split
 ·exact⟨⟨Zah _,id,λ_=>rfl⟩,λh=>by cases h⟩
 ·refine⟨⟨by simp,λh=>by grind,id⟩,λh=>⟨ω,rfl,?_⟩⟩;grind
theorem CX (s:dr) (lz:Bool) (j:Int):Gw s (ly s lz j)/\(ly s lz j).af.length=s.af.length/\(ly s lz j).bU=s.bU:=by
 unfold ly;split
 ·grind [Gw.refl]
 ·rename_i h
  have h:s.bU=false:=by grind
  exact⟨⟨by grind [ep],by grind [ep],λe=>by grind⟩,ep _ _ _ _,h.symm⟩
theorem fP (g:List aW->Int->List aW) (b:∀l j,(g l j).length=l.length) (s:dr) (a:List Int):Gw s (dZ g s a)/\(dZ g s a).af.length=s.af.length/\(dZ g s a).bU=s.bU:=by
 have:∀(a:List Int) (l:List aW),(a.foldl g l).length=l.length:=λa=>by
  induction a with
  | nil=>intro l;rfl
  | cons j a c=>intro l;rw[Zb2,c,b]
 unfold dZ;split
 ·grind [Gw.refl]
 ·rename_i h
  have h:s.bU=false:=by grind
  exact⟨⟨by grind,by grind,λe=>by grind⟩,this _ _,h.symm⟩
theorem wu (q:Bool) (a:∀s,Gw s (Z s)):∀(n:Nat) (s:dr),Gw s (n' Z q n s)
 | 0,s=>Gw.refl s
 | n+1,s=>by
  rw[n'];split
  ·exact Gw.refl s
  ·exact(a s).trans (wu q a n _)
def InJ (s:dr) (j:List Int):Prop:=s.bU=false->∀v∈j,0<=v/\v<s.af.length
theorem InJ.more {j:List Int} (h:InJ s j) (g:Gw s Y) {v:Int} (b:Y.bU=false->0<=v/\v<Y.af.length):InJ Y (j++[v]):=λe x a=>by
 rcases List.mem_append.mp a with h1 | h1
 ·have:=h (g.low e) x h1;have:=g.len;omega
 ·grind
theorem tV (a:∀s,Gw s (Z s)):∀(n:Nat) (s:dr) (j:List Int),InJ s j->Gw s (jT Z n s j).1/\InJ (jT Z n s j).1 (jT Z n s j).2/\(jT Z n s j).2.length<=j.length+n
 | 0,s,j,h=>⟨Gw.refl s,h,Zah _⟩
 | n+1,s,j,h=>by
  rw[jT];split
  ·grind [Gw.refl]
  ·obtain⟨p1,p2⟩:=eU s ⟨2,0,0,[]⟩;have g1:=p1.trans (a (bH s ⟨2,0,0,[]⟩).1);obtain⟨b,c,i⟩:=tV a n (Z (bH s ⟨2,0,0,[]⟩).1) (j++[(bH s ⟨2,0,0,[]⟩).2]) (h.more g1 λe=>by
    obtain⟨q1,d,k⟩:=p2 ((a _).low e);have:=(a (bH s ⟨2,0,0,[]⟩).1).len;have g:(bH s ⟨2,0,0,[]⟩).1.af.length=s.af.length+1:=by grind
    rw[d];omega)
   exact⟨g1.trans b,c,by grind⟩
def LL (a:∀s,Gw s (Z s)) (lz:Bool) (s:dr):Gw s (Bp Z lz s):=by
 unfold Bp;exact(((eU s _).1.trans (a _)).trans (eU _ _).1).trans (CX _ _ _).1
def ϣ (a:∀s,Gw s (Z s)) (q:Bool) (mn mx:Int) (lz:Bool) (s:dr):Gw s (yR Z q mn mx lz s):=by
 unfold yR;have h1:=wu q a mn.toNat s;split
 ·exact h1.trans (LL a lz _)
 ·have b:=tV a (lj mn mx) (n' Z q mn.toNat s) [] (λ_ v c=>nomatch c);exact(h1.trans b.1).trans (fP _ (λl j=>ep _ _ _ _) _ _).1
theorem LM (a:∀s,Gw s (Z s)) (s:dr):Gw s (vF Z s).1/\((vF Z s).1.bU=false->0<=(vF Z s).2/\(vF Z s).2<(vF Z s).1.af.length):=by
 unfold vF;obtain⟨p1,p2⟩:=eU s ⟨2,0,0,[]⟩;obtain⟨b,c⟩:=eU (Z (bH s ⟨2,0,0,[]⟩).1) ⟨3,0,0,[]⟩;obtain⟨k1,k2,k3⟩:=CX (bH (Z (bH s ⟨2,0,0,[]⟩).1) ⟨3,0,0,[]⟩).1 false (bH s ⟨2,0,0,[]⟩).2;refine⟨((p1.trans (a _)).trans b).trans k1,λe=>?_⟩;grind
def sU (t:ah) (s:dr):i_ t s=if s.bU=true then s
  else if t.op=2 then(bH s ⟨1,0,0,t.r⟩).1
  else if t.op=3 then lB t.ae s
  else if t.op=4 then dZ (ll (fX t.ae s []).1.af.length) (fX t.ae s []).1 (fX t.ae s []).2
  else if t.op=5 then yR (λs=>Pk t.ae s) (CW t.ae) t.mn t.mx t.lz s
  else if t.op=6 then(bH (Pk t.ae (bH s ⟨4,2*t.cap,0,[]⟩).1) ⟨4,2*t.cap+1,0,[]⟩).1
  else if t.op=7 then(bH s ⟨5,0,0,[]⟩).1
  else if t.op=8 then(bH s ⟨6,0,0,[]⟩).1 else s:=by cases t;rw[i_];rfl
mutual
theorem l5:∀(t:ah) (s:dr),Gw s (i_ t s)
 | .mk op r mn mx lz cap nk ks,s=>by
  have hL:=CY ks
  have hH:=QkP ks
  have hA:=yS ks s [] (λ_ v hv=>nomatch hv)
  rw[i_]
  split
  ·exact Gw.refl s
  ·split
   ·exact(eU _ _).1
   ·split
    ·exact hL s
    ·split
     ·exact hA.1.trans (fP _ (λl j=>iS _ _ _) _ _).1
     ·split
      ·exact ϣ hH _ _ _ _ s
      ·split
       ·exact((eU _ _).1.trans (hH _)).trans (eU _ _).1
       ·split
        ·exact(eU _ _).1
        ·split
         ·exact(eU _ _).1
         ·exact Gw.refl s
theorem CY:∀(l:List ah) (s:dr),Gw s (lB l s)
 | [],s=>by rw[lB];exact Gw.refl s
 | t::l,s=>by
  rw[lB]
  split
  ·exact Gw.refl s
  ·exact(l5 t s).trans (CY l _)
theorem QkP:∀(l:List ah) (s:dr),Gw s (Pk l s)
 | [],s=>by rw[Pk];exact Gw.refl s
 | t::_,s=>by rw[Pk];exact l5 t s
theorem yS:∀(l:List ah) (s:dr) (j:List Int),InJ s j->Gw s (fX l s j).1/\InJ (fX l s j).1 (fX l s j).2/\(fX l s j).2.length<=j.length+l.length
 | [],s,j,h=>by rw[fX];exact⟨Gw.refl s,h,Zah _⟩
 | t::l,s,j,h=>by
  have hf:=l5 t
  rw[fX]
  split
  ·exact⟨Gw.refl s,h,by simp only;omega⟩
  ·split
   ·exact⟨hf s,λe v hv=>by have:=h ((hf s).low e) v hv;have:=(hf s).len;simp only;omega,by simp only;omega⟩
   ·obtain⟨u1,u2⟩:=LM hf s
    obtain⟨a1,a2,a3⟩:=yS l (vF (λs=>i_ t s) s).1 (j++[(vF (λs=>i_ t s) s).2]) (h.more u1 u2)
    exact⟨u1.trans a1,a2,by simp only[Zab,Zae,Zak] at a3 ⊢;omega⟩
end
def QfE (f:FuncId) (Y:Type) (c:Y->dr) (oM:List (AV D.E)->St D.E->C Y) (pre:Y->Prop) (args:Y->List (AV D.E)) (a:Y->dr):bh D:=⟨f,Y,oM,pre,λy=>.ptr 0 0::args y,λy=>Jk 1 (c y),λ_=>.tuple [],λy=>Jk 2 (a y),2,3⟩
def eC (y:dr×ah):dr:=lk (i_ y.2 y.1)
def CZ (y:dr×ah):Prop:=y.1.af.length<=400/\F8 y.2
def Jl:bh D:=QfE 133 (dr×ah) (·.1) (λa s=>match a with
 | [p,t]=>az (V_ p s) λc=>az (IA t) λt=>.ret (c,t)
 | _=>.fail) CZ (λy=>[.agg (D.a_ 15 y.2)]) eC
def kk (y:dr×List ah):dr×List Int:=lk (fX y.2 y.1 [])
def n_ (y:dr×List ah) (j:Nat):dr:=lk (dZ (ll (kk y).1.af.length) (kk y).1 ((kk y).2.take j))
def yT (y:dr×List ah):dr:=lk (n_ y (kk y).2.length)
def QkQ (y:dr×List ah):Prop:=y.1.af.length<=400/\y.1.bU=false/\y.2.length<=1000000/\∀t∈y.2,F8 t
def OE:bh D:=QfE 190 (dr×List ah) (·.1) (λa s=>match a with
 | [p,l]=>az (V_ p s) λc=>az (aL D s 15 l) λl=>.ret (c,(l:List ah))
 | _=>.fail) QkQ (λy=>[.list 15 y.2]) yT
structure LN where
 c:dr
 n:Nd
 k:ah
def km (y:LN):dr:=lk (n' (i_ y.k) (jS y.k) y.n.mn.toNat y.c)
def rE (y:LN):Nat:=lk (lj y.n.mn y.n.mx)
def iD (y:LN):dr×List Int:=lk (jT (i_ y.k) (rE y) (km y) [])
def oL (y:LN) (j:Nat):dr:=lk (dZ (fx (iD y).1.af.length y.n.lz) (iD y).1 ((iD y).2.take j))
def pM (y:LN):dr:=lk (yR (i_ y.k) (jS y.k) y.n.mn y.n.mx y.n.lz y.c)
def QkR (y:LN):Prop:=y.c.af.length<=400/\y.c.bU=false/\F8 y.k/\0<=y.n.mn/\y.n.mn<=30/\(y.n.mx= -1\/(y.n.mn<=y.n.mx/\y.n.mx<=30))
def OF:bh D:=QfE 191 LN (·.c) (λa s=>match a with
 | [p,n,t]=>az (V_ p s) λc=>az (Qe0 n) λn=>az (IA t) λt=>.ret ⟨c,n,t⟩
 | _=>.fail) QkR (λy=>[.agg (D.a_ 7 y.n),.agg (D.a_ 15 y.k)]) pM
def fnO (n:Nat):s7:=[Jl.under (λy=>2*dm y.2) n,OE.under (λy=>2*uM y.2+1) n,OF.under (λy=>2*dm y.k+1) n]
def QkS (y:Jl.Y):cH D:=⟨[],[],[(1978,⟨dr×Nat,[0],λx=>[(3,.ptr 2 0),(4,Qvo x.2)],[],λx=>Jk 3 x.1++[vE 2 y.2],4,λx=>x.2<=y.2.ae.length/\Gw y.1 x.1/\lB (y.2.ae.drop x.2) x.1=lB y.2.ae y.1,λx=>y.2.ae.length-x.2⟩)],[],1,[]⟩
def QsD (y:Jl.Y):Prop:=vc (fnO (2*dm y.2)++[zQ]) f133 Jl QkS y
structure Wc where
 s:dr
 j:List Int
 i:Nat
def Wd (y:dr×List ah) (x:Wc):Prop:=x.i<=y.2.length/\Gw y.1 x.s/\x.j.length<=x.i/\fX (y.2.drop x.i) x.s x.j=fX y.2 y.1 []
def QkT (y:OE.Y):cH D:=⟨[],[],[
 (26,⟨Wc,[0,1],λx=>[(4,.grow 5 x.j 3),(5,Qvo x.i)],[],λx=>Jk 2 x.s++[vw 3],4,Wd y,λx=>y.2.length-x.i⟩),
 (30,⟨Nat,[0],λj=>[(4,.grow 5 (kk y).2 3),(7,Qvo j)],[],λj=>Jk 2 (n_ y j)++[vw 3],4,λj=>j<=(kk y).2.length,λj=>(kk y).2.length-j⟩)],
 [(3,⟨Unit,[0],λ_=>[(4,.grow 5 (kk y).2 3)],[],λ_=>Jk 2 (kk y).1++[vw 3],4,λ_=>True,λ_=>0⟩)],1,[]⟩
def QsE (y:OE.Y):Prop:=vc (fnO (2*uM y.2+1)++[zQ]) f190 OE QkT y
def crN (y:LN):Nat×AO D.E:=(2,.cells (D.a_ 7 y.n) 206 false)
def crB (y:LN):List (Nat×AO D.E):=[crN y,vE 3 y.k]
def crI (y:LN) (x:dr×Nat):Prop:=x.2<=y.n.mn.toNat/\Gw y.c x.1/\n' (i_ y.k) (jS y.k) (y.n.mn.toNat-x.2) x.1=km y
def crJ (y:LN) (x:Wc):Prop:=x.i<=rE y/\Gw (km y) x.s/\x.j.length<=x.i/\jT (i_ y.k) (rE y-x.i) x.s x.j=iD y
def QkV (y:OF.Y):cH D:=⟨[],[],[
  (58,⟨dr×Nat,[0,6],λx=>[(4,.ptr 2 0),(5,.ptr 3 0),(7,Qvo x.2)],[],λx=>Jk 4 x.1++crB y,5,crI y,λx=>y.n.mn.toNat-x.2⟩),
  (506,⟨Wc,[0],λx=>[(4,.ptr 2 0),(5,.ptr 3 0),(9,.grow 5 x.j 5),(10,Qvo (y.n.mn+(x.i:Nat)))],[],λx=>Jk 4 x.s++crB y++[vw 5],6,crJ y,λx=>rE y-x.i⟩),
  (510,⟨Nat,[0],λj=>[(4,.ptr 2 0),(9,.grow 5 (iD y).2 5),(11,Qvo j)],[],λj=>Jk 4 (oL y j)++[crN y,vw 5],6,λj=>j<=(iD y).2.length,λj=>(iD y).2.length-j⟩)],
  [(7,⟨Unit,[0],λ_=>[(4,.ptr 2 0),(5,.ptr 3 0)],[],λ_=>Jk 4 (km y)++crB y,5,λ_=>True,λ_=>0⟩),
   (63,⟨Unit,[0],λ_=>[(4,.ptr 2 0),(9,.grow 5 (iD y).2 5)],[],λ_=>Jk 4 (iD y).1++[crN y,vw 5],6,λ_=>True,λ_=>0⟩)],1,[]⟩
def QsH (y:OF.Y):Prop:=vc (fnO (2*dm y.k+1)++[zQ,Wa,FD]) f191 OF QkV y
abbrev RAA (v:dr) (p:Prop):Prop:=aa [v.bU] (aa [v.af] p)
def We (y:dr×ah):Prop:=let k:=ag (eC y).af;let q1:=ag y.1.af;let u:=(bH y.1 (aW.mk 6 0 0 [])).1;let v:=(bH y.1 (aW.mk 5 0 0 [])).1;let g:=y.2.op;let c:=y.2.ae;let w:=gG .i64 2 y.2.cap;let B:=ay .i64 w 1;let A:=(bH y.1 (aW.mk 1 0 0 y.2.r)).1;let s:=(bH y.1 (aW.mk 4 w 0 [])).1;let F:=ah.mk 0 [] 0 0 false 0 0 [];let a:=gt F c 0;let d:=ah.mk a.op a.r a.mn a.mx a.lz a.cap a.nk a.ae;let e:=eC (s,d);let l:=(bH e (aW.mk 4 B 0 [])).1;let h:=LN.mk y.1 (Nd.mk g y.2.r y.2.mn y.2.mx y.2.lz y.2.cap y.2.nk) d;let t:=λp:Prop=>RAH g (RA8 y.2 (RAI y.2.nk c p));let m:Prop:=(q1=k/\y.1.bU=(eC y).bU/\y.1.af=(eC y).af/\True);let G:=λz:dr×Nat=>Gw y.1 z.1/\lB (List.drop z.2 c) z.1=lB c y.1;aj y.1.bU (m) (aj (aB g 2) (Iv (y.1.af.length<=400)/\aa ([1,0,0]:List Int) (RAI y.2.r q1 (RAA y.1 (ag A.af=k/\A.bU=(eC y).bU/\A.af=(eC y).af/\True)))) (aj (aB g 3) ((∃z:dr×Nat,0=(z.2:Int)/\t (q1=ag z.1.af/\y.1.bU=z.1.bU/\y.1.af=z.1.af/\(Iv (z.2<=c.length/\G z))))/\(∀x:dr×Nat,let n:=ag x.1.af;let i:=(x.2:Int);let j:=c.length;let o:=aw i (ag c);let b:=gt F c i.toNat;let f:=ah.mk b.op b.r b.mn b.mx b.lz b.cap b.nk b.ae;let q:Prop:=(n=k/\x.1.bU=(eC y).bU/\x.1.af=(eC y).af/\True);(Iv (x.2<=j/\Gw y.1 x.1/\lB (List.drop x.2 c) x.1=lB c y.1))->aj o (aj (!x.1.bU) (aG 0 i=true/\o=true/\Iv (CZ (x.1,f)/\(2*dm f)<(2*dm y.2))/\RA1 b (RAI b.ae n (RAA x.1 (∃z:dr×Nat,ay .i64 i 1=(z.2:Int)/\t (ag (eC (x.1,f)).af=ag z.1.af/\(eC (x.1,f)).bU=z.1.bU/\(eC (x.1,f)).af=z.1.af/\(Iv ((z.2<=j/\G z)/\(j-z.2)<(j-x.2)))))))) (q)) (q))) (aj (aB g 4) (Iv (QkQ (y.1,c)/\((2*uM c)+1)<(2*dm y.2))/\RAI c q1 (RAA y.1 (ag (yT (y.1,c)).af=k/\(yT (y.1,c)).bU=(eC y).bU/\(yT (y.1,c)).af=(eC y).af/\True))) (aj (aB g 5) (Tt 1 (aw 0 (ag c)=true/\Iv (QkR h/\((2*dm d)+1)<(2*dm y.2))/\RAH g (RA8 y.2 (RAH y.2.nk (RA1 a (RAI a.ae q1 (RAA y.1 (RAH g (RA8 y.2 (RAI y.2.nk c (RA1 a (RAH a.ae (ag (pM h).af=k/\(pM h).bU=(eC y).bU/\(pM h).af=(eC y).af/\True))))))))))))) (aj (aB g 6) (Iv (y.1.af.length<=400)/\aa ([4,w,0]:List Int) (RAC (RAH q1 (RAA y.1 (Tt 1 (aw 0 (ag c)=true/\Iv (CZ (s,d)/\(2*dm d)<(2*dm y.2))/\aa [a.op] (aa [a.r] (aa [a.mn,a.mx] (aa [a.lz] (aa [a.cap,a.nk] (aa [a.ae] (aa [ag s.af] (aa [s.bU] (aa [s.af] (Iv (e.af.length<=400)/\aa ([4,B,0]:List Int) (aa ([[]]:List (List (Int×Int))) (aa [ag e.af] (aa [e.bU] (aa [e.af] (ag l.af=k/\l.bU=(eC y).bU/\l.af=(eC y).af/\True)))))))))))))))))))) (aj (aB g 7) (Iv (y.1.af.length<=400)/\aa ([5,0,0]:List Int) (RAC (RAH q1 (RAA y.1 (ag v.af=k/\v.bU=(eC y).bU/\v.af=(eC y).af/\True))))) (aj (aB g 8) (Iv (y.1.af.length<=400)/\aa ([6,0,0]:List Int) (RAC (RAH q1 (RAA y.1 (ag u.af=k/\u.bU=(eC y).bU/\u.af=(eC y).af/\True))))) (m))))))))
def Ϥ:∀y,We y=QsD y:=λy=>by kernel_rfl
def Wf (y:dr×(List ah)):Prop:=let D:=ag (yT y).af;let q1:=(kk y).2;let A:=ag (kk y).1.af;((∃z:Wc,aa [y.2] ([]=z.j/\0=((z.i:Nat):Int)/\ag y.1.af=ag z.s.af/\y.1.bU=z.s.bU/\y.1.af=z.s.af/\(Iv (Wd y z))))/\(∀x:Wc,let B:=ag x.s.af;let p:=((x.i:Nat):Int);let C:=aw p (ag y.2);let E:=aB p (cx .i64 (ag y.2) 1);let k:=bH x.s (aW.mk 2 0 0 []);let w:=k.2.toNat;let a:=gt (ah.mk 0 [] 0 0 false 0 0 []) y.2 p.toNat;let c:=ah.mk a.op a.r a.mn a.mx a.lz a.cap a.nk a.ae;let g:=eC (k.1,c);let b:=bH g (aW.mk 3 0 0 []);let d:=ag b.1.af;let m:=gt (aW.mk 0 0 0 []) b.1.af w;let q:=cS b.1.af w (aW.mk m.op (ay .i64 k.2 1) m.y m.bm);let n:=gt (aW.mk 0 0 0 []) q w;let t:Prop:=(∃z:Unit,x.j=q1/\B=A/\x.s.bU=(kk y).1.bU/\x.s.af=(kk y).1.af/\(Iv True));(Iv (Wd y x))->aj C (aj (!x.s.bU) (aj E (aG 0 p/\C/\Iv (CZ (x.s,c)/\(2*dm c)<((2*uM y.2)+1))/\aa [a.op] (aa [a.r] (aa [a.mn,a.mx] (aa [a.lz] (aa [a.cap,a.nk] (aa [a.ae] (aa [B] (aa [x.s.bU] (aa [x.s.af] (∃z:Unit,x.j=q1/\ag (eC (x.s,c)).af=A/\(eC (x.s,c)).bU=(kk y).1.bU/\(eC (x.s,c)).af=(kk y).1.af/\(Iv True))))))))))) (Iv (x.s.af.length<=400)/\aa ([2,0,0]:List Int) (aa ([[]]:List (List (Int×Int))) (aa [B] (aa [x.s.bU] (aa [x.s.af] (aG 0 p/\C/\Iv (CZ (k.1,c)/\(2*dm c)<((2*uM y.2)+1))/\aa [a.op] (aa [a.r] (aa [a.mn,a.mx] (aa [a.lz] (aa [a.cap,a.nk] (aa [a.ae] (aa [ag k.1.af] (aa [k.1.bU] (aa [k.1.af] (Iv (g.af.length<=400)/\aa ([3,0,0]:List Int) (aa ([[]]:List (List (Int×Int))) (aa [ag g.af] (aa [g.bU] (aa [g.af] (bJ (ag (bM x.j [b.2])) 8/\aj (!b.1.bU) (aG 0 k.2/\aw k.2 d/\aG 0 k.2/\aw k.2 d/\aa [d,d,d] (∃z:Wc,aa [y.2] (bM x.j [b.2]=z.j/\ay .i64 p 1=((z.i:Nat):Int)/\d=ag z.s.af/\b.1.bU=z.s.bU/\cS q w (aW.mk n.op n.x d n.bm)=z.s.af/\(Iv (Wd y z/\(y.2.length-z.i)<(y.2.length-x.i)))))) (∃z:Wc,aa [y.2] (bM x.j [b.2]=z.j/\ay .i64 p 1=((z.i:Nat):Int)/\d=ag z.s.af/\b.1.bU=z.s.bU/\b.1.af=z.s.af/\(Iv (Wd y z/\(y.2.length-z.i)<(y.2.length-x.i)))))))))))))))))))))))))) (t)) (t)))/\(∀x:Unit,(Iv True)->(∃z:Nat,aa [q1] (0=(z:Int)/\A=ag (n_ y z).af/\(kk y).1.bU=(n_ y z).bU/\(kk y).1.af=(n_ y z).af/\(Iv (z<=q1.length))))/\(∀f:Nat,let e:=ag (n_ y f).af;let l:=q1.length;let u:=aw (f:Int) (ag q1);let h:=gt 0 q1 (f:Int).toNat;let o:=gt (aW.mk 0 0 0 []) (n_ y f).af h.toNat;let v:Prop:=(e=D/\(n_ y f).bU=(yT y).bU/\(n_ y f).af=(yT y).af/\True);(Iv (f<=l))->aj u (aj (!(n_ y f).bU) (aG 0 (f:Int)/\u/\aG 0 h/\aw h e/\aa [e,h,e] (∃z:Nat,aa [q1] (ay .i64 (f:Int) 1=(z:Int)/\e=ag (n_ y z).af/\(n_ y f).bU=(n_ y z).bU/\cS (n_ y f).af h.toNat (aW.mk o.op e o.y o.bm)=(n_ y z).af/\(Iv (z<=l/\(l-z)<(l-f)))))) (v)) (v)))
def ϥ:∀y,Wf y=QsE y:=λy=>by kernel_rfl
def Wg (y:LN):Prop:=let I:=ag (km y).af;let q1:=ag (pM y).af;let t:=(iD y).2;let L:=ag (iD y).1.af;let h:=bH (km y) (aW.mk 2 0 0 []);let b:=ah.mk y.k.op y.k.r y.k.mn y.k.mx y.k.lz y.k.cap y.k.nk y.k.ae;let G:=eC (h.1,b);let m:=(bH G (aW.mk 3 h.2 0 [])).1;let H:=ag m.af;let M:=fx H y.n.lz m.af h.2;let u:=λp:Prop=>RA7 y.n p;let l:=λp:Prop=>RA1 y.k (RAH y.k.ae (RA7 y.n p));Iv (F8 b)/\RA1 y.k (RAH y.k.ae (((∃z:dr×Nat,aa [jS b] (0=(z.2:Int)/\l (ag y.c.af=ag z.1.af/\y.c.bU=z.1.bU/\y.c.af=z.1.af/\(Iv (crI y z)))))/\(∀x:dr×Nat,let v:=ag x.1.af;let J:=aw (x.2:Int) y.n.mn;let q:Prop:=(∃z:Unit,l (v=I/\x.1.bU=(km y).bU/\x.1.af=(km y).af/\(Iv True)));(Iv (crI y x))->aj J (aj (!x.1.bU) (aj (!(jS b)) (Iv (CZ (x.1,b)/\(2*dm b)<((2*dm y.k)+1))/\aa [y.k.op] (aa [y.k.r] (aa [y.k.mn,y.k.mx] (aa [y.k.lz] (aa [y.k.cap,y.k.nk] (aa [y.k.ae] (aa [v] (aa [x.1.bU] (aa [x.1.af] (∃z:dr×Nat,aa [jS b] (ay .i64 (x.2:Int) 1=(z.2:Int)/\l (ag (eC (x.1,b)).af=ag z.1.af/\(eC (x.1,b)).bU=z.1.bU/\(eC (x.1,b)).af=z.1.af/\(Iv (crI y z/\(y.n.mn.toNat-z.2)<(y.n.mn.toNat-x.2))))))))))))))) (q)) (q)) (q)))/\(∀x:Unit,(Iv True)->aj (aB y.n.mx (-1)) (Iv ((km y).af.length<=400)/\aa ([2,0,0]:List Int) (aa ([[]]:List (List (Int×Int))) (aa [I] (aa [(km y).bU] (aa [(km y).af] (Iv (CZ (h.1,b)/\(2*dm b)<((2*dm y.k)+1))/\aa [y.k.op] (aa [y.k.r] (aa [y.k.mn,y.k.mx] (aa [y.k.lz] (aa [y.k.cap,y.k.nk] (aa [y.k.ae] (aa [ag h.1.af] (aa [h.1.bU] (aa [h.1.af] (Iv (G.af.length<=400)/\aa ([3,h.2,0]:List Int) (aa ([[]]:List (List (Int×Int))) (aa [ag G.af] (aa [G.bU] (aa [G.af] (aj (!m.bU) (Iv (m.af.length<=1000/\0<=h.2/\h.2<(m.af.length:Int))/\aa [h.2,H] (aa [y.n.lz] (aa [H] (aa [m.bU] (aa [m.af] (aa [H] (aa [y.n.lz] (ag M=q1/\m.bU=(pM y).bU/\M=(pM y).af/\True)))))))) (H=q1/\m.bU=(pM y).bU/\m.af=(pM y).af/\True))))))))))))))))))))) (((∃z:Wc,[]=z.j/\y.n.mn=(y.n.mn+((z.i:Nat):Int))/\l (I=ag z.s.af/\(km y).bU=z.s.bU/\(km y).af=z.s.af/\(Iv (crJ y z))))/\(∀d:Wc,let w:=ag d.s.af;let K:=aw (y.n.mn+((d.i:Nat):Int)) y.n.mx;let a:=bH d.s (aW.mk 2 0 0 []);let A:=bM d.j [a.2];let B:Prop:=(∃z:Unit,d.j=t/\u (w=L/\d.s.bU=(iD y).1.bU/\d.s.af=(iD y).1.af/\(Iv True)));(Iv (crJ y d))->aj K (aj (!d.s.bU) (Iv (d.s.af.length<=400)/\aa ([2,0,0]:List Int) (aa ([[]]:List (List (Int×Int))) (aa [w] (aa [d.s.bU] (aa [d.s.af] (bJ (ag A) 8/\Iv (CZ (a.1,b)/\(2*dm b)<((2*dm y.k)+1))/\aa [y.k.op] (aa [y.k.r] (aa [y.k.mn,y.k.mx] (aa [y.k.lz] (aa [y.k.cap,y.k.nk] (aa [y.k.ae] (aa [ag a.1.af] (aa [a.1.bU] (aa [a.1.af] (∃z:Wc,A=z.j/\ay .i64 (y.n.mn+((d.i:Nat):Int)) 1=(y.n.mn+((z.i:Nat):Int))/\l (ag (eC (a.1,b)).af=ag z.s.af/\(eC (a.1,b)).bU=z.s.bU/\(eC (a.1,b)).af=z.s.af/\(Iv (crJ y z/\(rE y-z.i)<(rE y-d.i))))))))))))))))))) (B)) (B)))/\(∀d:Unit,(Iv True)->(∃z:Nat,aa [t] (0=(z:Int)/\u (L=ag (oL y z).af/\(iD y).1.bU=(oL y z).bU/\(iD y).1.af=(oL y z).af/\(Iv (z<=t.length)))))/\(∀e:Nat,let f:=ag (oL y e).af;let C:=(oL y e).af.length;let o:=t.length;let D:=aw (e:Int) (ag t);let g:=gt 0 t (e:Int).toNat;let E:=fx f y.n.lz (oL y e).af g;let F:Prop:=(f=q1/\(oL y e).bU=(pM y).bU/\(oL y e).af=(pM y).af/\True);(Iv (e<=o))->aj D (aj (!(oL y e).bU) (aG 0 (e:Int)/\D/\Iv (C<=1000/\0<=g/\g<(C:Int))/\aa [g,f] (aa [y.n.lz] (aa [f] (aa [(oL y e).bU] (aa [(oL y e).af] (aa [g,f] (aa [y.n.lz] (∃z:Nat,aa [t] (ay .i64 (e:Int) 1=(z:Int)/\u (ag E=ag (oL y z).af/\(oL y e).bU=(oL y z).bU/\E=(oL y z).af/\(Iv (z<=o/\(o-z)<(o-e))))))))))))) (F)) (F)))))))
def Ϧ:∀y,Wg y=QsH y:=λy=>by kernel_rfl
end
end sx
end Go.Proofs.YtiiiphndmbabcaaGreat
