/- StreamWell: a part of the proof. -/
import Derived.Shelf.SlGeneric
import Derived.Shelf.SlSortCmp.WholeK
import Derived.Ground.SlsfProg
import Derived.Ground.NamesProg
import Derived.Shelf.Strings.Builder1
import Derived.Shelf.LaysM
import Derived.Test.YtiiiphndmbabcaaGreatProg
import Derived.Test.YtiiiphndmbabcaaGreatC2
import Derived.Test.YtiiiphndmbabcaaGreatC7
import Derived.Lib.MinMax
import Derived.Deep.DeepMust
import Derived.RegionTactic
import Derived.Shelf.SlSortCmp.NoneTotal
import Derived.Test.YtiiiphndmbabcaaGreatC4
import Derived.Test.YtiiiphndmbabcaaGreatC3
import Derived.Shelf.Spec.SlicesInsert
import Derived.Lib.AppendZerosOnto
import Derived.Laws.NewBlocks
import Derived.Test.YtiiiphndmbabcaaGreatC9
import Derived.Deep.RegionHeld3
import Derived.WalkKit
import Derived.ProofKit
set_option linter.all false
namespace Go.Proofs.YtiiiphndmbabcaaGreat
open Go.Proofs.Tryz
end Go.Proofs.YtiiiphndmbabcaaGreat
namespace Go.Proofs
open Go.Proofs.YtiiiphndmbabcaaGreat Go.Proofs.Tryz
open Go.Shelf
def Tryz.sortRg_ren:Go.Shelf.Ren:=⟨λ| 6=>274 | 15=>299 | 14=>298 | 28=>315 | 29=>316 | 20=>307 | 21=>308 | 22=>309 | 23=>310 | 24=>311 | 25=>312 | 26=>313 | 27=>314 | 46=>318 | 47=>319 | 48=>320 | 49=>321 | 50=>322 | 57=>323 | n=>n,λ| 22=>201 | 24=>350 | 25=>353 | 3=>3 | 39=>151 | 0=>0 | 53=>25 | 55=>150 | 4=>4 | 46=>383 | 45=>382 | 50=>272 | 5=>5 | 9=>9 | 66=>392 | 70=>396 | 76=>398 | 77=>297 | n=>n,λ| n=>n⟩
def Tryz.sortRg:Go.Proofs.SlLaysF0.n6 prog Tryz.sortRg_ren:={
 mixed:=by kernel_rfl
 f6:=⟨Tryz.f274.name,by decide,Tryz.func274.trans (ZaR some (by kernel_rfl))⟩
 f14:=⟨Tryz.f298.name,by decide,Tryz.func298.trans (ZaR some (by kernel_rfl))⟩
 f15:=Tryz.func299.trans (ZaR some (by kernel_rfl))
 f20:=⟨Tryz.f307.name,by decide,Tryz.func307.trans (ZaR some (by kernel_rfl))⟩
 f21:=⟨Tryz.f308.name,by decide,Tryz.func308.trans (ZaR some (by kernel_rfl))⟩
 f22:=⟨Tryz.f309.name,by decide,Tryz.func309.trans (ZaR some (by kernel_rfl))⟩
 f23:=⟨Tryz.f310.name,by decide,Tryz.func310.trans (ZaR some (by kernel_rfl))⟩
 f24:=⟨Tryz.f311.name,by decide,Tryz.func311.trans (ZaR some (by kernel_rfl))⟩
 f25:=⟨Tryz.f312.name,by decide,Tryz.func312.trans (ZaR some (by kernel_rfl))⟩
 f26:=⟨Tryz.f313.name,by decide,Tryz.func313.trans (ZaR some (by kernel_rfl))⟩
 f27:=⟨Tryz.f314.name,by decide,Tryz.func314.trans (ZaR some (by kernel_rfl))⟩
 f28:=Tryz.func315.trans (ZaR some (by kernel_rfl))
 f29:=Tryz.func316.trans (ZaR some (by kernel_rfl))
 f46:=⟨Tryz.f318.name,by decide,Tryz.func318.trans (ZaR some (by kernel_rfl))⟩
 f47:=Tryz.func319.trans (ZaR some (by kernel_rfl))
 f48:=Tryz.func320.trans (ZaR some (by kernel_rfl))
 f49:=⟨Tryz.f321.name,by decide,Tryz.func321.trans (ZaR some (by kernel_rfl))⟩
 f50:=⟨Tryz.f322.name,by decide,Tryz.func322.trans (ZaR some (by kernel_rfl))⟩
 f57:=⟨Tryz.f323.name,by decide,Tryz.func323.trans (ZaR some (by kernel_rfl))⟩
 t0:=Tryz.underlying0
 a0:=Tryz.isAgg0
 z0:=Tryz.sizeOf0
 v0:=Tryz.zeroValue0
 t3:=Tryz.underlying3
 a3:=Tryz.isAgg3
 z3:=Tryz.sizeOf3
 v3:=Tryz.zeroValue3
 t4:=Tryz.underlying4
 a4:=Tryz.isAgg4
 z4:=Tryz.sizeOf4
 v4:=Tryz.zeroValue4
 t5:=Tryz.underlying5
 a5:=Tryz.isAgg5
 z5:=Tryz.sizeOf5
 v5:=Tryz.zeroValue5
 t9:=Tryz.underlying9
 a9:=Tryz.isAgg9
 z9:=Tryz.sizeOf9
 v9:=Tryz.zeroValue9
 t22:=Tryz.underlying201
 a22:=Tryz.isAgg201
 z22:=Tryz.sizeOf201
 v22:=Tryz.zeroValue201
 t25:=Tryz.underlying353
 a25:=Tryz.isAgg353
 z25:=Tryz.sizeOf353
 v25:=Tryz.zeroValue353
 t39:=Tryz.underlying151
 a39:=Tryz.isAgg151
 z39:=Tryz.sizeOf151
 v39:=Tryz.zeroValue151
 t45:=Tryz.underlying382
 a45:=Tryz.isAgg382
 z45:=Tryz.sizeOf382
 v45:=Tryz.zeroValue382
 t46:=Tryz.underlying383
 a46:=Tryz.isAgg383
 z46:=Tryz.sizeOf383
 v46:=Tryz.zeroValue383
 t50:=Tryz.underlying272
 a50:=Tryz.isAgg272
 z50:=Tryz.sizeOf272
 v50:=Tryz.zeroValue272
 t53:=Tryz.underlying25
 a53:=Tryz.isAgg25
 z53:=Tryz.sizeOf25
 v53:=Tryz.zeroValue25
 t55:=Tryz.underlying150
 a55:=Tryz.isAgg150
 z55:=Tryz.sizeOf150
 v55:=Tryz.zeroValue150
 t66:=Tryz.underlying392
 a66:=Tryz.isAgg392
 z66:=Tryz.sizeOf392
 v66:=Tryz.zeroValue392
 t70:=Tryz.underlying396
 a70:=Tryz.isAgg396
 z70:=Tryz.sizeOf396
 v70:=Tryz.zeroValue396
 t76:=Tryz.underlying398
 a76:=Tryz.isAgg398
 z76:=Tryz.sizeOf398
 v76:=Tryz.zeroValue398
 t77:=Tryz.underlying297
 a77:=Tryz.isAgg297
 z77:=Tryz.sizeOf297
 v77:=Tryz.zeroValue297 }
end Go.Proofs
namespace Go.Proofs.YtiiiphndmbabcaaGreat
open Go.Proofs.Tryz
namespace cls
open Go.RowKit sl Go.Shelf
def er (r:Rg):List Value:=[.int .i32 r.1,.int .i32 r.2]
def j3 (r:Rg):(er r).length=2:=rfl
def Rd.pair {w:World} {a:Option Addr} {l:List Rg} {cap:Nat} (h:Rd er w a l cap) {i:Nat} {x:Rg} (e:l[i]?=some x):
  ∃b off,a=some ⟨b,off,none⟩/\b<w.heap.size/\w.cell? ⟨b,off+i*2,none⟩=some (.int .i32 x.1)/\w.cell? ⟨b,off+i*2+1,none⟩=some (.int .i32 x.2):=by
 obtain⟨b,off,h1,d,c⟩:=h.cells j3 e;exact⟨b,off,h1,d,c 0 _ ω rfl,by have:=c 1 (.int .i32 x.2) ω rfl;rwa [<-Za4] at this⟩
def yk (r:Rg):∀u∈er r,u.oneCell':=by
 intro u hu;simp[er] at hu;rcases hu with rfl | rfl<;>rfl
def vR:l8 prog 201 350 2 8:=l8.mk' (z:=.agg #[.int .i32 0,.int .i32 0]) Tryz.underlying201 (by kernel_rfl) rfl (by decide)
abbrev yU (B:Nat) (w:World) (v:Value) (l:List Rg):Prop:=kb er 2 350 B w v l
set_option maxHeartbeats 2000000 in
theorem QkU (x y:Int) (w:World):
  Calls prog 273 #[.agg #[.int .i32 x,.int .i32 y]] w λe C=>∃v,e=.returned v/\yU w.heap.size C v (dZ (x,y))/\Below w.heap.size w C:=by
 obtain⟨lo,m⟩:∃lo,lo=max x 0:=⟨_,rfl⟩
 obtain⟨hi,l⟩:∃hi,hi=min y 1114111:=⟨_,rfl⟩
 have h:=Lib.hid m
 have f:=Lib.hid l
 clear m l
 go_enter Tryz.func273,Tryz.ntmps273
 go_wp2_with fail
 rw[<-h.out,<-f.out]
 obtain⟨b,a⟩:∃b,b=(w.alloc (.cells #[.int .i32 lo,.int .i32 hi] 350)).alloc (.cells #[.int .i32 0,.int .i32 55295,.int .i32 57344,.int .i32 1114111] 350):=⟨_,rfl⟩
 have D:Rd er b (some ⟨w.heap.size+1,0,none⟩) parts 2:=by
  subst a
  have:=Rd.built (ba:=er) (w:=w.alloc (.cells #[.int .i32 lo,.int .i32 hi] 350)) (E:=350) (cs:=#[.int .i32 0,.int .i32 55295,.int .i32 57344,.int .i32 1114111]) parts 2 rfl rfl ω
  simp_all
 have c:Below w.heap.size w b:=by
  subst a
  exact((Below.refl _ _).alloc (Zah _) _).alloc (by simp) _
 have r:b.cell? ⟨w.heap.size,0,none⟩=some (.int .i32 lo):=by subst a;simp[go_sem]
 have s:b.cell? ⟨w.heap.size,1,none⟩=some (.int .i32 hi):=by subst a;simp[go_sem]
 have dd:w.heap.size<b.heap.size:=by subst a;simp;omega
 rw[<-a]
 clear a
 go_loopg [3,19] 2 (λg v i wr=>∃k:Nat,k<=2/\g=2-k/\i=.int .i64 k/\yU b.heap.size wr v ((parts.take k).flatMap (clip (lo,hi)))/\Below w.heap.size w wr/\Below b.heap.size b wr)
 case atStart=>exact⟨0,ω,rfl,rfl,kb.nil _ _ _ _ _,c,Below.refl _ _⟩
 case round=>
  obtain⟨k,hk,rfl,rfl,q,o,lD⟩:=hrel
  have hs:=o.size
  by_cases t:k<2
  ·obtain⟨⟨p0,p1⟩,u⟩:∃x,parts[k]?=some x:=⟨_,Zaf t⟩
   obtain⟨I,L,e2,A,c0,c1⟩:=Rd.pair (D.kept lD) u
   cases e2
   simp only[Za6] at c0 c1
   have J:=(lD.cell (p:=⟨w.heap.size,0,none⟩) dd).trans r
   have K:=(lD.cell (p:=⟨w.heap.size,1,none⟩) dd).trans s
   have B:w.heap.size<wr.heap.size:=ZbB dd lD.size
   have z:=Lib.hid u
   clear u
   have hlen:=fy (clip (lo,hi)) 1 (Dd _) (parts.take k)
   have F:(parts.take k).length<=2:=by simp[parts];omega
   by_cases G:max lo p0<=min hi p1
   ·go_wp2_with (at_builtin;go_must (refine pr vR rfl rfl rfl rfl (by simp) ((q.alloc _).alloc _) (max lo p0,min hi p1) rfl j3 yk ω ω (by have:=lD.size;simp;omega) ?_);intro M N H g1)
    go_roundg (2-(k+1))
    case measure=>omega
    case rel=>
     have d:clip (lo,hi) (p0,p1)=[(max lo p0,min hi p1)]:=by unfold clip;rw[Zac G]
     have n:=(q.alloc (.cells #[.int .i32 p0,.int .i32 p1] 350)).alloc (.cells #[.int .i32 (max lo p0),.int .i32 (min hi p1)] 350)
     have j:=((Below.refl wr.heap.size wr).alloc (Zah _) (.cells #[.int .i32 p0,.int .i32 p1] 350)).alloc (by simp) (.cells #[.int .i32 (max lo p0),.int .i32 (min hi p1)] 350)
     refine⟨k+1,ω,rfl,by go_num,?_,?_,?_⟩
     ·rw[tt _ z.out,d]
      exact H
     ·exact nT (o.trans (j.mono hs)) n g1 c.size (by simp;omega)
     ·exact nT (lD.trans (j.mono lD.size)) n g1 (Zah _) (by have:=lD.size;simp;omega)
   ·go_wp2_with fail
    go_roundg (2-(k+1))
    case measure=>omega
    case rel=>
     have d:clip (lo,hi) (p0,p1)=[]:=by unfold clip;rw[Zaa (show ¬max lo p0<=min hi p1 by omega)]
     have j:=((Below.refl wr.heap.size wr).alloc (Zah _) (.cells #[.int .i32 p0,.int .i32 p1] 350)).alloc (by simp) (.cells #[.int .i32 (max lo p0),.int .i32 (min hi p1)] 350)
     refine⟨k+1,ω,rfl,by go_num,?_,o.trans (j.mono hs),lD.trans (j.mono lD.size)⟩
     rw[tt _ z.out,d,Zaw]
     exact(q.alloc _).alloc _
  ·obtain rfl:k=2:=ω
   go_wp2_with fail
   go_ret
   refine⟨_,rfl,?_,o⟩
   have e:dZ (x,y)=(parts.take 2).flatMap (clip (lo,hi)):=by simp only[dZ,h.out,f.out];rfl
   rw[e]
   exact q.mono c.size
set_option maxHeartbeats 2000000 in
theorem cmp (x y:Rg) (w:World) (h: -2147483648<=x.1-y.1/\x.1-y.1<=2147483647):Calls prog 275 #[.agg #[.int .i32 x.1,.int .i32 x.2],.agg #[.int .i32 y.1,.int .i32 y.2]] w λe a=>e=.returned (.int .i64 (x.1-y.1))/\a=(w.alloc (.cells #[.int .i32 x.1,.int .i32 x.2] 350)).alloc (.cells #[.int .i32 y.1,.int .i32 y.2] 350):=by
 obtain⟨h1,b⟩:=h
 go_enter Tryz.func275,Tryz.ntmps275
 go_wp2_with fail
 go_ret
 simp_all
def V0 {B:Nat} {w:World} {g n cap:Nat} {l:List Rg} (h:yU B w (.slice (some ⟨g,0,none⟩) n cap) l) (a:n=l.length) {i:Nat} {x:Rg} (b:l[i]?=some x):
  w.cell? ⟨g,i*2,none⟩=some (.int .i32 x.1)/\w.cell? ⟨g,i*2+1,none⟩=some (.int .i32 x.2)/\w.frozen? ⟨g,i*2,none⟩=false/\w.frozen? ⟨g,i*2+1,none⟩=false:=
 ⟨(h.cellAt a j3 b (t:=0) ω rfl).1,(h.cellAt a j3 b (t:=1) ω rfl).1,(h.cellAt a j3 b (t:=0) ω rfl).2,(h.cellAt a j3 b (t:=1) ω rfl).2⟩
open Go.Sort (Holds HoldsK flatK get_flatK size_flatK putRow putRowK putCells SWO mapBlock onCells PermIn SortedIn alloc_eq_grow grow_grow grow)
structure Cu where
 r:Rg
 lo:0<=r.1/\r.1<=1114111
instance:Inhabited Cu:=⟨⟨(0,0),by decide⟩⟩
variable {w:World} {g:Nat} {Z:Array Obj}
def ev (r:Cu):List Value:=er r.r
def cf (x y:Cu):Int:=x.r.1-y.r.1
theorem Lu:∀(l:List Rg),(∀r∈l,0<=r.1/\r.1<=1114111)->∃b:List Cu,b.map Cu.r=l
 | [],_=>⟨[],rfl⟩
 | r::t,h=>by
  obtain⟨c,ht⟩:=Lu t (λx a=>h x (by simp[a]));exact⟨⟨r,h r (by simp)⟩::c,by simp[ht]⟩
def Lv (a:List Cu):flat er (a.map Cu.r)=flat ev a:=by
 rw[flat,flat,Zdz];rfl
theorem Co (r:Cu):(ev r).length=2:=rfl
theorem yl (d:Array Cu):(flatK ev 2 d).toList=flat ev d.toList:=by
 apply Zb6;intro t;by_cases ht:t<d.size*2
 ·have h1:(flatK ev 2 d)[t]! =(ev d[t / 2]!)[t % 2]!:=get_flatK ev 2 d t ht;have a:t<(flatK ev 2 d).size:=by simpa using ht
  have c:t / 2<d.size:=ω;have e:d.toList[t / 2]?=some d[t / 2]!:=by
   grind
  have b:=xT Co d.toList (t / 2) (t % 2) _ e ω;grind [Co]
 ·rw[Zbd (by simp;omega),Zbd (by rw[nh Co];simp;omega)]
theorem vS (x y:Cu):ltOf cf x y=decide (x.r.1<y.r.1):=by
 unfold ltOf cf;grind
def swo:SWO (ltOf cf) where
 irrefl x:=by rw[vS];simp
 trans x y z h1 h2:=by rw[vS] at*;simp at*;omega
 ntrans x y z h1 h2:=by rw[vS] at*;simp at*;omega
def ϭ (bZ off size:Nat) (w:World):CmpLays prog 275 #[] ev 2 cf bZ off size w:=by
 intro m os a _ x y;have b:=x.lo;have c:=y.lo;refine(cmp x.r y.r _ ω).mono ?_;rintro e d ⟨rfl,rfl⟩;exact⟨rfl,0,_,by rw[Go.Sort.alloc_eq_grow,Go.Sort.alloc_eq_grow,Go.Sort.grow_grow];rfl⟩
theorem E3 {n:Nat} {aT:Array Value} {e:TypeId} {fr:Nat×Nat} (d:Array Value) (a:w.heap[g]?=some (.cells aT e fr)):
  (Go.Sort.grow (Go.Sort.putRow id (Go.Sort.ahead w n) g 0 d) Z).heap[g]?=some (.cells (Go.Sort.putCells id 0 d aT) e fr):=by
 grind [Go.Sort.heap_grow_old,Go.Sort.putRow,Go.Sort.mapBlock,Go.Sort.ahead,Go.Sort.onCells]
theorem IQ {n:Nat} (d:Array Value) (k:Nat) (hk:k<w.heap.size) (a:k≠g):(Go.Sort.grow (Go.Sort.putRow id (Go.Sort.ahead w n) g 0 d) Z).heap[k]?=w.heap[k]?:=by
 grind [Go.Sort.heap_grow_old,Go.Sort.putRow,Go.Sort.mapBlock,Go.Sort.ahead]
theorem yV (aT:Array Value) (a:List Value) (h:a.length<=aT.size):(Go.Sort.putCells id 0 a.toArray aT).toList.take a.length=a:=by
 apply Zb6;grind [Go.Sort.putCells]
theorem Ϯ (w:World):(isAgg 350).run prog w=.ok true w:=by
 simp_all
theorem sort {v:Value} {l:List Rg} (h:yU g w v l) (M:∀r∈l,0<=r.1/\r.1<=1114111) (hl:l.length<=1000000000) (O:g<=w.heap.size):
  Calls prog 274 #[v,.func (.func 275) #[] #[]] w λe o=>e=.returned (.tuple #[])/\
   ∃C,C.Perm l/\C.Pairwise (λa b=>a.1<=b.1)/\yU g o v C/\Below g w o:=by
 rcases h.2 with⟨rfl,y⟩ | ⟨B,cap,aT,rfl,p,E,y,I,hs,ht⟩
 ·obtain rfl:l=[]:=Zap y;refine(AnyF.slices_SortFunc_none Tryz.sortRg none 0 _ w).mono ?_;rintro e o ⟨rfl,rfl⟩;exact⟨rfl,[],List.Perm.refl _,List.Pairwise.nil,h,Below.refl _ _⟩
 ·obtain⟨d,rfl⟩:=Lu l M;have F:∀args w,(callFunc 275 args).run prog w=.ok (.enter 275 args) w:=enters_of Tryz.func275 (by kernel_rfl) rfl
  have hlen:(d.map Cu.r).length=d.toArray.size:=by simp
  have hH:HoldsK ev 2 w B 0 d.toArray:=by
   intro j t;have u:j<d.length*2:=by simpa using t
   rw[Lv] at ht;have e:(flat ev d)[j]?=some (flatK ev 2 d.toArray)[j]!:=by
    grind [yl]
   grind [World.frozen?,World.cell?]
  rw[hlen];refine(AnyQ.slices_SortFunc Tryz.sortRg 2 Ϯ Tryz.sizeOf350 ev Co (λx=>yk x.r) cf swo 275 #[] B 0 cap d.toArray w F (ϭ B 0 d.toArray.size w) hH (B_ E) (by simp at hl ⊢;omega)).mono ?_;rintro e o ⟨rfl,c,n,os,J,A,rfl⟩;obtain⟨z,K,L⟩:=J;simp only[Zb5] at*
  have D:c.toList.Perm d:=by
   have N:c.extract 0 d.length=c:=by rw[<-z];simp
   grind
  have m:(c.toList.map Cu.r).length=(d.map Cu.r).length:=by rw[Za2,Za2,D.length_eq]
  have q:(flatK ev 2 c).toList=flat er (c.toList.map Cu.r):=by rw[yl,Lv]
  have f:flatK ev 2 c=(flat er (c.toList.map Cu.r)).toArray:=by rw[<-q]
  refine⟨trivial,c.toList.map Cu.r,D.map _,?_,?_,?_⟩
  ·rw[List.pairwise_map,ZbD];intro i j hi t s;have G:i<c.size:=by simpa using hi
   have u:j<c.size:=by simpa using t
   have:=A i j (Zaj _) s ω;grind [vS]
  ·unfold yU kb;refine⟨by rw[nh j3],.inr ⟨B,cap,_,by rw[m];simp,p,E3 _ E,by rw[m];exact y,I,by simp[putCells,hs],?_⟩⟩;rw[f];have H:(flat er (c.toList.map Cu.r)).length=(c.toList.map Cu.r).length*2:=nh j3 _;grind [yV]
  ·refine⟨rfl,rfl,rfl,by simp[sortWorldK,putRowK],λk hk=>IQ _ k ω ω⟩
set_option maxHeartbeats 4000000 in
set_option maxRecDepth 100000 in
theorem V1 (a:Option Addr) (l:List Rg) (cap:Nat) (w:World) (h:Rd er w a l l.length) (hl:l.length<=100000000):
  Calls prog 250 #[.slice a l.length cap] w λe w'=>∃v s,e=.returned v/\s.Perm (l.flatMap dZ)/\s.Pairwise (λa b=>a.1<=b.1)/\yU w.heap.size w' v (iJ s)/\Below w.heap.size w w':=by
 have hm:=h.max
 have hle:=h.le
 unfold maxLen at hm
 have H:=Lib.hid h
 clear h
 go_enter Tryz.func250,Tryz.ntmps250
 go_wp2_with fail
 go_loopg [3,12] l.length (λg v i wr=>∃k:Nat,k<=l.length/\g=l.length-k/\i=.int .i64 k/\yU w.heap.size wr v ((l.take k).flatMap dZ)/\Below w.heap.size w wr)
 case atStart=>exact⟨0,ω,rfl,rfl,kb.nil _ _ _ _ _,Below.refl _ _⟩
 case round=>
  obtain⟨k,hk,rfl,rfl,d,m⟩:=hrel
  have hs:=m.size
  have hlen:=fy dZ 2 sX (l.take k)
  have hlt2:(l.take k).length<=l.length:=by simp;omega
  by_cases C:k<l.length
  ·obtain⟨⟨c,f⟩,A⟩:∃x,l[k]?=some x:=⟨_,Zaf C⟩
   obtain⟨b,off,rfl,W,c0,c1⟩:=Rd.pair (H.out.kept m) A
   have HX:=Lib.hid A
   clear A
   go_wp2_with fail
   refine(QkU c f _).mono ?_
   rintro e E ⟨v1,rfl,O,b1⟩
   obtain⟨a1,G,rfl,j,B⟩:=O.rd
   have hr2:=sX (c,f)
   have J:yU w.heap.size E u3 ((l.take k).flatMap dZ):=(d.alloc _).below b1 (Zah _)
   have lD:Below w.heap.size w E:=m.trans ((((Below.refl wr.heap.size wr).alloc (Zah _) _).mono hs).trans (b1.mono (by simp;omega)))
   have M:=lD.size
   have Y:((l.take k).flatMap dZ).length+(dZ (c,f)).length<=1000000000:=ω
   clear O b1 B
   go_wp2_with (at_builtin;go_must (refine xU vR rfl rfl rfl rfl J j rfl j3 yk Y ω M ?_);intro v2 w2 P g2)
   go_roundg (l.length-(k+1))
   case measure=>omega
   case rel=>exact⟨k+1,ω,rfl,by go_num,by rw[tt _ HX.out];exact P,Below.grow lD J g2 (Zah _) M⟩
  ·obtain rfl:k=l.length:=ω
   rw[ZaM] at d hlen
   have I:∀r∈l.flatMap dZ,E' r:=by
    grind [PB]
   have o:=Lib.hid I
   go_wp2_with fail
   refine(sort d (λr S=>⟨(o.out r S).1,by have:=o.out r S;unfold E' at this;omega⟩) ω hs).mono ?_
   rintro e E ⟨rfl,s,F,K,O,b1⟩
   have qG:s.length=(l.flatMap dZ).length:=F.length_eq
   have hsl2:s.length<=200000000:=ω
   have lD:Below w.heap.size w E:=m.trans b1
   have HI:Hid (∀r∈s,E' r):=Lib.hid λr S=>o.out r (F.mem_iff.1 S)
   have HP:=Lib.hid F
   have U:=Lib.hid K
   clear F K qG o I d m b1
   obtain⟨a1,G,rfl,j,B⟩:=O.rd
   have X:=j.max
   have hle1:=j.le
   unfold maxLen at X
   have RD:=Lib.hid j
   clear j B O
   go_wp2_with fail
   go_loopg [4,25] s.length (λg v i wr=>∃k:Nat,k<=s.length/\g=s.length-k/\i=.int .i64 k/\yU E.heap.size wr v (iJ (s.take k))/\Below E.heap.size E wr)
   case atStart=>exact⟨0,ω,rfl,rfl,kb.nil _ _ _ _ _,Below.refl _ _⟩
   case round=>
    obtain⟨k,hk,rfl,rfl,d,m⟩:=hrel
    have D:=m.size
    have hlen:=wN (s.take k)
    have htl:(s.take k).length<=s.length:=by simp;omega
    have z:∀p∈iJ (s.take k),E' p:=L1 λp F=>HI.out p (Zcg F)
    by_cases C:k<s.length
    ·obtain⟨⟨c,f⟩,A⟩:∃x,s[k]?=some x:=⟨_,Zaf C⟩
     have hxi:E' (c,f):=HI.out _ (ZaJ A)
     obtain⟨Z,hx1,hx2⟩:=hxi
     simp only at Z hx1 hx2
     obtain⟨b,off,rfl,W,c0,c1⟩:=Rd.pair (RD.out.kept m) A
     have he:=De A
     have Q:=Lib.hid he
     clear A he
     generalize iJ (s.take k)=out at d hlen z Q
     rcases Zcu out with rfl | ⟨N,p,rfl⟩
     ·obtain⟨ao,co,rfl,rdo,_⟩:=d.rd
      clear rdo
      have n:ch [] (c,f)=[]++[(c,f)]:=rfl
      have q:=Lib.hid n
      clear n z
      simp only[Zak] at*
      go_wp2_with fail
      go_quiet (fail)
      go_wp2_with (at_builtin;go_must (refine pr vR rfl rfl rfl rfl (by simp) ((d.alloc _).drewN _) (c,f) rfl j3 yk (by simp) ω (by simp;omega) ?_);intro v2 w2 P g2)
      go_roundg (s.length-(k+1))
      case measure=>omega
      case rel=>
       refine⟨k+1,ω,rfl,by go_num,?_,?_⟩
       ·rw[Q.out,q.out];exact P
       ·exact nT (pw (m.alloc D _) _) ((d.alloc _).drewN _) g2 (Zah _) (by simp;omega)
     ·rw[Zcv] at*
      have n:ch (N++[p]) (c,f)=if c<=p.2+1 then N++[(p.1,max p.2 f)] else N++[p]++[(c,f)]:=by simp[ch]
      have q:=Lib.hid n
      obtain⟨hp0,hp1,hp2⟩:=z p (by simp)
      obtain⟨g,co,rfl,V,hg,hlc,hcm⟩:=d.form (by simp)
      obtain⟨d0,d1,f0,f1⟩:=V0 d rfl (i:=N.length) (x:=p) (by simp)
      have T:=Lib.hid d
      clear n z d
      simp only[Zab,Zae,Zak] at*
      cases R:decide (c<=p.2+1)
      ·have L:p.2+1<c:=by simpa using R
       clear R
       go_wp2_with fail
       go_quiet (fail)
       go_wp2_with (at_builtin;go_must (refine pr vR rfl rfl rfl rfl (by simp) ((T.out.alloc _).drewN _) (c,f) rfl j3 yk (by simp;omega) ω (by simp;omega) ?_);intro v2 w2 P g2)
       go_roundg (s.length-(k+1))
       case measure=>omega
       case rel=>
        refine⟨k+1,ω,rfl,by go_num,?_,?_⟩
        ·rw[Q.out,q.out,Zaa ω];exact P
        ·exact nT (pw (m.alloc D _) _) ((T.out.alloc _).drewN _) g2 (Zah _) (by simp;omega)
      ·have L:c<=p.2+1:=by simpa using R
       clear R
       go_wp2_with fail
       go_quiet (fail)
       go_wp2_with fail
       go_region
       all_goals go_wp2_with fail
       go_roundg (s.length-(k+1))
       case measure=>omega
       case rel=>
        refine⟨k+1,ω,rfl,by go_num,?_,?_⟩
        ·rw[Q.out,q.out,Zac L]
         have:=kb.store (t:=1) (y:=(p.1,max p.2 f)) (u:=.int .i32 (max p.2 f)) ((T.out.alloc (.cells #[.int .i32 c,.int .i32 f] 350)).drewN (nq+1)) (by simp) j3 (i:=N.length) (x:=p) (by simp) ω rfl
         simpa using this
        ·exact(pw (m.alloc D _) _).setCell V _
    ·obtain rfl:k=s.length:=ω
     go_wp2_with fail
     go_ret
     refine⟨_,s,rfl,HP.out,U.out,?_,?_⟩
     ·rw[ZaM] at d
      exact d.mono lD.size
     ·exact lD.trans (m.mono lD.size)
end cls
set_option maxRecDepth 100000
set_option maxHeartbeats 4000000
namespace sx
noncomputable section
open Go Go.RowKit cls syn
def QkV {M:Pm D} {x:Rg} (h:tV x):LR M (D.ba 6 x) (er x):=by
 obtain⟨h1,a,b,_⟩:=h;exact .cons (.int (cH.2 ⟨by show(-2147483648:Int)<=x.1;omega,by show x.1<=(2147483647:Int);omega⟩)) (.cons (.int (cH.2 ⟨by show(-2147483648:Int)<=x.2;omega,by show x.2<=(2147483647:Int);omega⟩)) .nil)
def avV (v:AV D.E):Value:=match v with
 | .int k n=>.int k n
 | _=>.nilIface
theorem Lw:∀y:List Rg,sl.flat er y=(aY (D:=D) 6 y).map avV
 | []=>rfl
 | x::t=>by
  show er x++sl.flat er t=([AV.int .i32 x.1,AV.int .i32 x.2]++aY (D:=D) 6 t).map avV
  rw[Lw t,ZcG];rfl
theorem QkW {M:Pm D} {H:Hp D} {w:World} {y:List Rg} {v:Value} (h:VR M (.list 6 y) v) (f:dX M H w) (hl:y.length<=100000000):∃a cap,v=.slice a y.length cap/\sl.Rd er w a y y.length:=by
 have k:y.length<=maxLen:=by grind [maxLen]
 cases h with
 | list hs l n=>
  rename_i b o cap
  refine⟨_,_,rfl,⟨λh=>(nomatch h),Zah _,k,λg e m=>?_⟩⟩;cases e;refine⟨rfl,f.slt (hs 0 m 0 _ rfl),λj u hu=>?_⟩;rw[Lw,Zbk,ZdM] at hu;obtain⟨v,d,rfl⟩:=hu;obtain⟨p,h1,i⟩:=pG gb f hs j v d;obtain⟨x,_,c⟩:=ZbG.1 (ZaJ d);have c:v=AV.int .i32 x.1\/v=AV.int .i32 x.2:=by simpa using(show v∈[AV.int .i32 x.1,AV.int .i32 x.2] from c)
  rcases c with rfl | rfl<;>(cases i;exact h1)
 | dW=>exact⟨_,_,rfl,⟨λ_=>⟨rfl,rfl⟩,Zah _,Zaj _,λg _ h=>absurd h (Nat.lt_irrefl 0)⟩⟩
theorem Lx:Ok cK:=by
 refine⟨⟨f250,_,by kernel_rfl,cI (by kernel_rfl)⟩,λy u M A w B k _ R q=>?_⟩;obtain⟨v,rfl,I⟩:=xl B;obtain⟨a,cap,rfl,m⟩:=QkW I k u;refine(V1 a y cap w m u).mono λe p ⟨v,s,E,H,l,t,r⟩=>?_
 subst E;have j:=Dg H l;rw[PF j] at t j;rcases t.2 with⟨rfl,h⟩ | ⟨g,cap,aT,rfl,C,L,h,F,hs,ht⟩
 ·have z:aX y=[]:=Zap h;exact q M _ p (by show VR M (.list 6 (aX y)) _;rw[z];exact .dW) (jm k r 0)
 ·have D:LR M (aY 6 (aX y)) (sl.flat er (aX y)):=by
   have:=J7 (M:=M) (c:=6) (f:=λx=>x) (ba:=er) (xs:=aX y) λx J=>QkV (j.1.1 x J)
   change LR M _ (((aX y).map λx:Rg=>x).flatMap er) at this;rw[List.map_id'] at this;exact this
  have d:∀i v,(aY 6 (aX y))[i]?=some v->∃n,p.cell? ⟨g,0+i,none⟩=some n/\VR M v n:=λi v e=>by
   obtain⟨n,h1,K⟩:=D.get e;grind [World.cell?]
  refine q _ _ p (VR.list (b:=g) (o:=0) (cx.add gb) (by have G:(aX y).length<=cap:=h;unfold maxLen at F;show(aX y).length<=_;omega) h) (XB k r (g:=g) (o:=0) C d 0)
end
end sx
namespace ins
open Go Go.RowKit Go.Lib
abbrev R:TypeId:=275
abbrev S:TypeId:=269
section
variable {P:Program}
theorem od (w:World) (l p ty elem:TypeId) (k b o c e:Nat) (a:Addr) (d g:Nat) (cs:List Value)
  (hu:P.underlying l=some (.slice elem)) (hs:(P.info? elem).map (·.size)=some k) (n:cs.length=Nat.min d c*k)
  (f:∀j v,cs[j]?=some v->w.cell? (a.add j)=some v) (q:∀j,j<cs.length->(w.cell? ⟨b,o+j,none⟩).isSome) (r:∀j,j<cs.length->w.frozen? ⟨b,o+j,none⟩=false) (h1:∀v∈cs,v.oneCell'):
  (Builtin.copy_ #[l,p] ty #[.slice (some ⟨b,o,none⟩) c e,.slice (some a) d g]).run P w=.ok (goInt (Nat.min d c)) (w.setCells b o cs):=by
 have hl:=run_loadCells_list (P:=P) w a cs f;have h:=run_storeCells_cells (P:=P) b o cs 0 w (by assumption) (by assumption) h1;cases m:P.info? elem with
 | none=>simp[m] at hs
 | some i=>
  have hi:i.size=k:=by grind
  simp[Builtin.copy_,Zza hu,Builtin.lenOf,Builtin.firstCells,sizeOf,typeInfo,m,hi,<-n,hl,h]
end
def Ly:(Tryz.prog.info? R).map (·.size)=some 2:=by kernel_rfl
set_option maxHeartbeats 4000000 in
set_option maxRecDepth 100000 in
theorem shift (b off n c i d a vc:Nat) (cs p:List Value) (w:World) (hi:i<n) (J:n+1<=c) (U:n<=1000000) (z:d≠b)
  (hcl:cs.length=n*2) (hvl:p.length=2)
  (E:∀j v,cs[j]?=some v->w.cell? ⟨b,off+j,none⟩=some v) (m:∀j,j<(n+1)*2->(w.cell? ⟨b,off+j,none⟩).isSome=true) (u:∀j,j<(n+1)*2->w.frozen? ⟨b,off+j,none⟩=false)
  (M:∀j v,p[j]?=some v->w.cell? ⟨d,a+j,none⟩=some v) (B:∀v∈cs,v.oneCell'=true) (C:∀v∈p,v.oneCell'=true)
  (V X:TypeId) (N O:Nat) (K:w.shape? d=some (V,N)) (L:w.shape? b=some (X,O)) (H:O≠0) (F:w.frozen? ⟨d,a,none⟩=false) (G:w.frozen? ⟨d,N,none⟩=false):
  Calls prog 172 #[.slice (some ⟨b,off,none⟩) n c,.int .i64 i,.slice (some ⟨d,a,none⟩) 1 vc] w λe w'=>
   e=.returned (.slice (some ⟨b,off,none⟩) (n+1) c)/\w'=(w.drew.setCells b (off+(i+1)*2) (cs.drop (i*2))).setCells b (off+i*2) p:=by
 have I:∀o Q A,(callFunc 210 #[.slice (some ⟨d,a,none⟩) 1 vc,.slice (some ⟨b,o,none⟩) Q A]).run prog w=.ok (.value (.bool false)) w:=λo Q A=>by
  rw[run_callFunc_extern Tryz.func210 (by kernel_rfl) (by kernel_rfl) (by kernel_rfl) (e:=Extern.SlicesOverlaps.overlaps #[S,S] #[4]) (by kernel_rfl),
   Lib.run_overlaps_apart w S 4 R Tryz.underlying269 2 Tryz.sizeOf275 ⟨d,a,none⟩ ⟨b,o,none⟩ 1 vc Q A z V X N O K L H F G]
  rfl
 have hdl:(cs.drop (i*2)).length=(n-i)*2:=by grind
 have mixed:Tryz.prog.follows .mixedOrders=true:=by kernel_rfl
 have hw1:IntKind.i64.wrap ((i:Int)+1)=(i:Int)+1:=by rw[IntKind.wrap_i64];omega
 have lD:(0:Int)<=(i:Int)+1:=ω
 have hin:i<=n:=ω
 have Y:¬(c=i+1):=ω
 have Z:(i:Int)<=(n:Int)+1:=ω
 have hb4:¬(c=i):=ω
 have s:∀ty f T,(Builtin.copy_ #[S,S] ty #[.slice (some ⟨b,off+(i+1)*2,none⟩) (n-i) f,.slice (some ⟨b,off+i*2,none⟩) (n+1-i) T]).run prog w.drew=.ok (goInt ((n-i:Nat):Int)) (w.drew.setCells b (off+(i+1)*2) (cs.drop (i*2))):=λty f T=>by
  have hm:Nat.min (n+1-i) (n-i)=n-i:=by grind
  have:=od (P:=prog) w.drew S S ty R 2 b (off+(i+1)*2) (n-i) f ⟨b,off+i*2,none⟩ (n+1-i) T (cs.drop (i*2)) Tryz.underlying269 Ly ω
   (λj v l=>by rw[Addr.add_lit,Za4];exact E (i*2+j) v (by grind))
   (λj l=>by rw[Za4];exact m _ ω) (λj l=>by rw[Za4];exact u _ ω) (λv hv=>B v (Zc5 hv))
  grind
 obtain⟨q,g⟩:∃q,q=w.drew.setCells b (off+(i+1)*2) (cs.drop (i*2)):=⟨_,rfl⟩
 have y:∀k,k<(n+1)*2->(q.cell? ⟨b,off+k,none⟩).isSome=true:=λk hk=>by
  rw[g]
  exact isSome_setCells b _ _ _ (λj l=>by rw[Za4];exact m _ ω) _ (m k hk)
 have t:∀(W:World),(∀x,W.cell? x=q.cell? x)->(∀x,W.frozen? x=q.frozen? x)->∀ty f,(Builtin.copy_ #[S,S] ty #[.slice (some ⟨b,off+i*2,none⟩) (n+1-i) f,.slice (some ⟨d,a,none⟩) 1 vc]).run prog W=.ok (goInt 1) (W.setCells b (off+i*2) p):=λW r D ty f=>by
  have hm:Nat.min 1 (n+1-i)=1:=by grind
  have:=od (P:=prog) W S S ty R 2 b (off+i*2) (n+1-i) f ⟨d,a,none⟩ 1 vc p Tryz.underlying269 Ly ω
   (λj v l=>by
    rw[Addr.add_lit,r,g,World.cell?_setCells_out b _ _ _ _ (λh _=>absurd h z)]
    exact M j v l)
   (λj l=>by rw[r,Za4];exact y _ ω) (λj l=>by rw[D,g,World.frozen?_setCells,Za4];exact u _ ω) C
  grind
 go_enter Tryz.func172,Tryz.ntmps172
 go_wp2_with (simp only[I])
 go_region_law_o (refine step_copy_runI rfl _ _ S S rfl _ _ (by simp[Act.eval,Act.put]) (by simp[Act.eval,Act.put]) (s _ _ _) ?_)
 go_wp2_with (at_builtin;refine wpList_copy_runI _ rfl _ _ S S rfl _ _ rfl rfl (t _ (λ_=>rfl) (λ_=>rfl) _ _) ?_)
 go_ret
 simp_all
abbrev zR:Value:=.agg #[.string ⟨#[]⟩,.int .i64 0]
def QkX:(Tryz.prog.info? R).map (λi=>(i.zero,i.size,i.bytes))=some (some zR,2,24):=by kernel_rfl
abbrev NU (w:World) (n c i:Nat) (cs:List Value):Array Value:=(cs.take (i*2)).toArray++Builtin.zeroCells zR.cells (n+1-i)++Builtin.zeroCells zR.cells (grownCap w (n+1) c R-(n+1))
theorem NV (n:Nat):(Builtin.zeroCells zR.cells n).size=n*2:=by
 simp[Builtin.zeroCells,Value.cells]
theorem AT {w:World} {n c i:Nat} {cs:List Value} (hi:i<=n) (a:cs.length=n*2):(NU w n c i cs).size=grownCap w (n+1) c R*2:=by
 grind [grownCap_ge,NV]
set_option maxHeartbeats 4000000 in
set_option maxRecDepth 100000 in
theorem grow (b off n c i p d vc:Nat) (cs f:List Value) (w:World) (hi:i<n) (hnc:n<=c) (s:c<n+1) (hbig:n<=1000000)
  (hcl:cs.length=n*2) (hvl:f.length=2)
  (r:∀j v,cs[j]?=some v->w.cell? ⟨b,off+j,none⟩=some v)
  (Q:∀j v,f[j]?=some v->w.cell? ⟨p,d+j,none⟩=some v) (A:∀v∈cs,v.oneCell'=true) (B:∀v∈f,v.oneCell'=true):
  Calls prog 172 #[.slice (some ⟨b,off,none⟩) n c,.int .i64 i,.slice (some ⟨p,d,none⟩) 1 vc] w λe w'=>
   e=.returned (.slice (some ⟨w.heap.size,0,none⟩) (n+1) (grownCap w (n+1) c R))/\
   w'=(((w.alloc (.cells (NU w n c i cs) R)).drew.setCells w.heap.size (i*2) f).drew).setCells w.heap.size ((i+1)*2) (cs.drop (i*2)):=by
 have mixed:Tryz.prog.follows .mixedOrders=true:=by kernel_rfl
 have⟨i0,N,U,X,V⟩:=info_parts QkX
 have M:b<w.heap.size:=block_lt_of_cell (r 0 _ (Zaf ω))
 have T:p<w.heap.size:=block_lt_of_cell (Q 0 _ (Zaf ω))
 have O:(n:Int)+1-(i:Int)=((n+1-i:Nat):Int):=ω
 have z:i+(n+1-i)=n+1:=ω
 have hold:(Builtin.firstCells i0.size i (.slice (some ⟨b,off,none⟩) i c)).run prog w.drew=.ok (cs.take (i*2)).toArray w.drew:=by
  rw[X]
  exact run_firstCells_some w.drew 2 i ⟨b,off,none⟩ i c (cs.take (i*2)) (by grind) (λj v g=>by
   rw[Addr.add_lit]
   rw[Za7] at g
   split at g
   ·exact r j v g
   ·cases g)
 have t:∀ty,(Builtin.append_ #[S,3] ty #[.slice (some ⟨b,off,none⟩) i c,.int .i64 ((n:Int)+1-(i:Int))]).run prog w=
   .ok (.slice (some ⟨w.heap.size,0,none⟩) (n+1) (grownCap w (n+1) c R)) (w.drew.alloc (.cells (NU w n c i cs) R)):=λty=>by
  have h:=Lib.run_append_grow_zeros w S 3 ty R i0 _ .i64 .i64 Tryz.underlying269 Tryz.underlying3 N U (some ⟨b,off,none⟩) i c (cs.take (i*2)) hold (n+1-i) ω ω ω ω (by grind) (by rw[V,z];exact growslice_fits s ω)
  grind
 obtain⟨G,Z⟩:∃G,G=grownCap w (n+1) c R:=⟨_,rfl⟩
 obtain⟨a,m⟩:∃a:Array Value,a=NU w n c i cs:=⟨_,rfl⟩
 have hGn:n+1<=G:=by grind [grownCap_ge]
 have J:a.size=G*2:=by grind [AT]
 have I:(n+1)*2<=a.size:=ω
 rw[<-Z] at t ⊢
 rw[<-m] at t ⊢
 obtain⟨k,l⟩:∃k,k=w.drew.alloc (.cells a R):=⟨_,rfl⟩
 have hN:∀j,j<(n+1)*2->(k.cell? ⟨w.heap.size,j,none⟩).isSome=true:=λj g=>by
  rw[l,World.cell?_alloc_at (w:=w.drew) a _ w.heap.size j rfl,Za5 ω];rfl
 have hNf:∀j,k.frozen? ⟨w.heap.size,j,none⟩=false:=λj=>by rw[l];exact World.frozen?_alloc_at (w:=w.drew) a _ w.heap.size j rfl
 have H:∀j v,w.cell? ⟨b,j,none⟩=some v->k.cell? ⟨b,j,none⟩=some v:=λj v h=>by rw[l,World.cell?_alloc_past (w:=w.drew) _ b j M];exact h
 have hOv:∀j v,w.cell? ⟨p,j,none⟩=some v->k.cell? ⟨p,j,none⟩=some v:=λj v h=>by rw[l,World.cell?_alloc_past (w:=w.drew) _ p j T];exact h
 have y:∀(W:World),(∀x,W.cell? x=k.cell? x)->(∀x,W.frozen? x=k.frozen? x)->∀ty q,(Builtin.copy_ #[S,S] ty #[.slice (some ⟨w.heap.size,i*2,none⟩) (n+1-i) q,.slice (some ⟨p,d,none⟩) 1 vc]).run prog W=.ok (goInt 1) (W.setCells w.heap.size (i*2) f):=λW u K ty q=>by
  have hm:Nat.min 1 (n+1-i)=1:=by grind
  have:=od (P:=prog) W S S ty R 2 w.heap.size (i*2) (n+1-i) q ⟨p,d,none⟩ 1 vc f Tryz.underlying269 Ly ω
   (λj v g=>by grind [Addr.add_lit])
   (λj g=>by grind) (λj g=>by grind) B
  grind
 have hGim:¬(G=i+1):=ω
 have hci:¬(c=i):=ω
 have L:b≠w.heap.size:=ω
 have hdl:(cs.drop (i*2)).length=(n-i)*2:=by grind
 have o:∀(W:World),(∀x,W.cell? x=(k.setCells w.heap.size (i*2) f).cell? x)->(∀x,W.frozen? x=(k.setCells w.heap.size (i*2) f).frozen? x)->∀ty q Y,(Builtin.copy_ #[S,S] ty #[.slice (some ⟨w.heap.size,(i+1)*2,none⟩) (n-i) q,.slice (some ⟨b,off+i*2,none⟩) (n-i) Y]).run prog W=.ok (goInt ((n-i:Nat):Int)) (W.setCells w.heap.size ((i+1)*2) (cs.drop (i*2))):=λW u K ty q Y=>by
  have hm:Nat.min (n-i) (n-i)=n-i:=by grind
  have:=od (P:=prog) W S S ty R 2 w.heap.size ((i+1)*2) (n-i) q ⟨b,off+i*2,none⟩ (n-i) Y (cs.drop (i*2)) Tryz.underlying269 Ly ω
   (λj v g=>by
    rw[Addr.add_lit,u,World.cell?_setCells_out _ _ _ _ _ (λh _=>absurd h L),Za4]
    exact H _ v (r (i*2+j) v (by grind)))
   (λj g=>by grind [isSome_setCells])
   (λj g=>by grind [World.frozen?_setCells]) (λv hv=>A v (Zc5 hv))
  grind
 have C:∀x,((w.alloc (.cells a R)).drew).cell? x=(w.drew.alloc (.cells a R)).cell? x:=λx=>rfl
 have D:∀x,((w.alloc (.cells a R)).drew).frozen? x=(w.drew.alloc (.cells a R)).frozen? x:=λx=>rfl
 have E:∀x,(((w.alloc (.cells a R)).drew.setCells w.heap.size (i*2) f).drew).cell? x=((w.drew.alloc (.cells a R)).setCells w.heap.size (i*2) f).cell? x:=λx=>rfl
 have F:∀x,(((w.alloc (.cells a R)).drew.setCells w.heap.size (i*2) f).drew).frozen? x=((w.drew.alloc (.cells a R)).setCells w.heap.size (i*2) f).frozen? x:=λx=>rfl
 have hw1:IntKind.i64.wrap ((i:Int)+1)=(i:Int)+1:=by rw[IntKind.wrap_i64];omega
 have lD:(0:Int)<=(i:Int)+1:=ω
 have hin:i<=n:=ω
 clear O z hold m Z I J
 go_enter Tryz.func172,Tryz.ntmps172
 go_wp2_with (first
  | (at_builtin;refine Lib.wpList_append_run _ rfl _ _ _ _ rfl _ _ rfl rfl _ _ (t _) ?_)
  | (at_builtin;refine wpList_copy_runI _ rfl _ _ S S rfl _ _ rfl rfl (y _ C D _ _) ?_)
  | (at_builtin;refine wpList_copy_runI _ rfl _ _ S S rfl _ _ rfl rfl (o _ (λ_=>rfl) (λ_=>rfl) _ _ _) ?_))
 go_region_law_o (refine step_copy_runI rfl _ _ S S rfl (.slice (some ⟨w.heap.size,(i+1)*2,none⟩) (n-i) (G-(i+1))) (.slice (some ⟨b,off+i*2,none⟩) (n-i) (c-i)) (by simp[Act.eval,Act.put]) (by simp[Act.eval,Act.put]) (o _ E F 3 (G-(i+1)) (c-i)) ?_)
 go_wp2
 go_ret
 simp_all
end ins
set_option maxRecDepth 100000
set_option maxHeartbeats 4000000
namespace sx
noncomputable section
open Go Go.RowKit cls syn
abbrev Qen:=List Row×Nat×Row
variable {M:Pm D} {l:List Row} {i:Nat} {Z b:List Value}
def rwO (n:Nat) (l:List Row):Nat×AO D.E:=(n,.arr 16 l 275 false)
def QbY (a:List (AV D.E)) (s:St D.E):C Qen:=match a with
 | [l,i,r]=>aA (aW D s 16 l) λl=>aQ (da i) λ_ i=>aA (aW D s 16 r) λr=>.ret (l,i.toNat,(r:List Row).getD 0 HB)
 | _=>.fail
def lC (l:List Row) (i:Nat) (r:Row):List Row:=l.take i++r::l.drop i
def sG:bk D:=⟨172,Qen,QbY,λy=>y.2.1<=y.1.length/\y.1.length<=1000,λy=>[.own 0 2 (ah y.1),QtJ y.2.1,.own 1 2 1],λy=>[rwO 0 y.1,rwO 1 [y.2.2]],
 λy=>.own 2 2 (ah (lC y.1 y.2.1 y.2.2)),λy=>[rwO 2 (lC y.1 y.2.1 y.2.2)],2,3⟩
def Qep:bk D:=⟨172,Qen,QbY,λy=>y.2.1=y.1.length/\y.1.length<=1000,λy=>[.own 0 2 (ah y.1),QtJ (ah y.1),.own 1 2 1],λy=>[rwO 0 y.1,rwO 1 [y.2.2]],
 λy=>.own 2 2 (ah (y.1++[y.2.2])),λy=>[rwO 2 (y.1++[y.2.2])],2,3⟩
def QbZ (y:(List Row)×Nat×Row):Prop:=let a:=ah y.1;let q1:=([y.2.2]:List Row);let b:=ah (bM y.1 q1);aI 0 a/\aI a a/\ak (aC 1 0) (a=ah (y.1++q1)/\y.1=(y.1++q1)/\True) (ak (aC a a) (bF b 24/\b=ah (y.1++q1)/\bM y.1 q1=(y.1++q1)/\True) (False))
def Qb0 (y:Wc):Prop:=let b:=ah y.l;let q1:=jQ y.l y.k;let c:=rb y.l y.k y.v;let d:=((lH y.l y.k:Nat):Int);let a:=d.toNat;let e:=([Row.mk y.k y.v]:List Row);let f:=List.getD e 0 HB;Iv (TbP (Wc.mk y.l y.k 0))/\RAR y.k b y.l (ak q1 (aI 0 d/\az d b/\false=(!q1)/\b=ah c/\cO y.l a (Row.mk (gt (Row.mk [] 0) y.l a).k y.v)=c/\True) (Iv (a<=y.l.length/\y.l.length<=1000)/\aa [b] (d=(a:Int)/\ah e=1/\e=([f]:List Row)/\aa [y.l] (true=(!q1)/\ah (lC y.l a f)=ah c/\lC y.l a f=c/\True))))
theorem QkY {a b c:AV D.E} {A:Array Value} (h:LR M [a,b,c] A.toList):∃v u t,A=#[v,u,t]/\VR M a v/\VR M b u/\VR M c t:=by
 obtain⟨l⟩:=A;obtain⟨v,r,e,h1,d⟩:=h.aP;obtain⟨u,m,e2,j,f⟩:=d.aP;obtain⟨t,n,i,k,g⟩:=f.aP;have:=g.jD;grind
theorem QkZ:Ok Qep:=okZ (V:=QbZ) [] f172 (λ_=>⟨[],[7],[],[],1,[]⟩) trivial λy a=>by
 unfold QbZ;simp only[bN,bh,aw,br,a8];have h:y.1.length<=1000:=a.2
 skip
 grind
theorem IS (c:Nat) (xs:List (D.E c)) (n:Nat):aY c (xs.drop n)=(aY c xs).drop (n*D.size c):=by
 by_cases h:n<=xs.length
 ·have e:aY c xs=aY c (xs.take n)++aY c (xs.drop n):=by rw[<-fQ,ZaO]
  grind [bb,gb]
 ·rw[Zbu ω,Zbu (by rw[bb gb];exact Zbc _ ω)];rfl
noncomputable def uX (l:List Row):List (AV D.E):=aY (D:=D) 16 l
def E4 (a b:List Row):uX (a++b)=uX a++uX b:=fQ (D:=D) 16 a b
def NW (l:List Row) (i:Nat):uX (l.take i)=(uX l).take (i*2):=nA (D:=D) gb 16 l i
def NX (l:List Row) (i:Nat):uX (l.drop i)=(uX l).drop (i*2):=IS 16 l i
def E5 (l:List Row):(uX l).length=l.length*2:=bb (D:=D) gb 16 l
def Qeq {r:Row} (a:LR M (uX l) Z) (c:LR M (uX [r]) b):LR M (uX (lC l i r)) (Z.take (i*2)++(b++Z.drop (i*2))):=by
 have e:lC l i r=l.take i++([r]++l.drop i):=rfl;rw[e,E4,E4,NW,NX];exact(a.take _).app (c.app (a.drop _))
theorem E6 {n:Nat} {C:Nat->Option Value} (a:Z.length=n*2) (hi:i<=n) (c:b.length=2) (p1:∀q,q<i*2->C q=Z[q]?) (p2:∀j,j<2->C (i*2+j)=b[j]?)
  (p3:∀j,j<(n-i)*2->C ((i+1)*2+j)=(Z.drop (i*2))[j]?) {q:Nat} {u:Value} (h:(Z.take (i*2)++(b++Z.drop (i*2)))[q]?=some u):C q=some u:=by
 have ht:(Z.take (i*2)).length=i*2:=by rw[Zar];omega
 by_cases h1:q<i*2
 ·grind
 ·rw[Zaz ω,ht] at h;grind
theorem V2 {H:Hp D} {w:World} (g:dX M H w) {b:Nat} {n:Int} {v:Value} (i:H b=some (.arr 16 l 275 false)) (p:n=l.length) (q:0<l.length) (m:VR M (.own b 2 n) v):
  ∃a cap C c cs,M.pl b=some a/\a.real/\a.len=l.length/\a.jh=2/\v=.slice (some ⟨a.bZ,a.sh,none⟩) l.length cap/\l.length<=cap/\a.sh+cap*2=a.qu/\
   w.heap[a.bZ]?=some (.cells C 275 c)/\C.size=a.qu/\c.1=c.2/\LR M (uX l) cs/\cs.length=l.length*2/\∀j v,cs[j]?=some v->w.cell? ⟨a.bZ,a.sh+j,none⟩=some v:=by
 obtain⟨a,e,hl,hz,k⟩:=g.obj b _ i;replace hl:a.len=l.length:=hl;replace hz:a.jh=2:=hz;cases m with
 | own g1 g2 g3 g4 g5 g6 g7=>
  rename_i cap o
  rw[e] at g1;cases g1;have d:=k g3;obtain⟨cs,h1,f⟩:=d.rd.list;obtain⟨C,c,k1,k2,k3,k4,k5⟩:=d;refine⟨a,cap,C,c,cs,e,g3,hl,hz,by rw[hl],ω,by rw[hz] at g7;exact g7,k1,k2,(k5 rfl).elim id λh=>ω,h1,?_,f⟩;rw[<-h1.1];exact E5 l
 | l5 g1 g2 g3 g4 g5=>omega
theorem Qb1:Ok sG:=by
 refine⟨⟨f172,_,by kernel_rfl,cI (by kernel_rfl)⟩,λy hy M A w hA J hT R hR=>?_⟩;obtain⟨hi,hl⟩:=hy;by_cases K:y.2.1=y.1.length
 ·have e:lC y.1 y.2.1 y.2.2=y.1++[y.2.2]:=by unfold lC;rw[K,ZaM,ZbH]
  have O:LR M [.own 0 2 (ah y.1),.int .i64 y.2.1,.own 1 2 1] A.toList:=hA;rw[K] at O;refine QkZ.2 y ⟨K,hl⟩ M A w (by show LR M [.own 0 2 (ah y.1),.int .i64 (ah y.1),.own 1 2 1] _;rw[aw y.1] at O ⊢;exact O) J hT R λM' v' w' hv k=>hR M' v' w' ?_ ?_
  ·show VR M' (.own 2 2 (ah (lC y.1 y.2.1 y.2.2))) v'
   rw[e];exact hv
  ·show cP _ M w (λt=>cy [rwO 2 (lC y.1 y.2.1 y.2.2)] t) M' w' 2 3
   rw[e];exact k
 ·obtain⟨v0,v1,v2,rfl,hv0,hv1,hv2⟩:=QkY hA;obtain rfl:=fF hv1;have s:y.2.1<y.1.length:=Nat.lt_of_le_of_ne hi K;obtain⟨m0,cap,C,fz,cs,B,H,hl0,hz0,rfl,X,htot,hC,hCs,hfz,Y,g,p⟩:=V2 J (b:=0) rfl (aw y.1) ω hv0;obtain⟨m1,I,C1,fz1,d,hm1,hr1,hl1,hz1,rfl,hcap1,Qtv,V,QuV,hfz1,hvs,m,f⟩:=V2 J (b:=1) (l:=[y.2.2]) rfl rfl (by simp) hv2;have hne:m1.bZ≠m0.bZ:=λe=>absurd (J.inj 1 0 _ _ m1 m0 rfl rfl hm1 B hr1 H e) (by decide)
  have T:∀v∈cs,v.oneCell':=sN Y (dV.2 λv hv=>(dY gb hv).1);have U:∀v∈d,v.oneCell':=sN hvs (dV.2 λv hv=>(dY gb hv).1);generalize hi2:y.2.1=i at*
  generalize P:y.1=l at*
  generalize hr2:y.2.2=r at*
  replace m:d.length=2:=m;have W:=Qeq (i:=i) Y hvs;have F:(lC l i r).length=l.length+1:=by unfold lC;rw[Zab,Zae,Zar,Zbg];omega
  have hnr:(aY (D:=D) 16 (lC l i r)).length=(l.length+1)*2:=by rw[<-F];exact E5 _
  have hdl:(cs.drop (i*2)).length=(l.length-i)*2:=by rw[Zbg,g];omega
  have L:∀{M':Pm D} {w':World} {mi:MI} {cap:Nat},M'.pl 2=some mi->mi.real->mi.jh=2->mi.len=l.length+1->l.length+1<=cap->mi.sh+cap*2=mi.qu->
    cP (λt=>cy (sG.heap y) t) M w (λc=>if c=2 then some (.arr 16 (lC l i r) 275 false) else if c=0 then none else cy (sG.heap y) c) M' w' 2 3->
    R (.returned (.slice (some ⟨mi.bZ,mi.sh,none⟩) (l.length+1) cap)) w':=λ{M' w' mi cap} S a2 a3 a4 a5 a6 k=>by
   refine hR M' _ w' ?_ ?_
   ·show VR M' (.own 2 2 (ah (lC y.1 y.2.1 y.2.2))) _
    rw[P,hi2,hr2,<-a4];exact VR.own S a3 a2 (by rw[a4,aw,F]) ω ω (by rw[a3];exact a6)
   ·have:=k.trans (cP.drop (b:=1) k.fJ 3);have e:(λt=>cy (sG.iE y) t)=jc (λc=>if c=2 then some (.arr 16 (lC l i r) 275 false) else if c=0 then none else cy (sG.heap y) c) 1 none:=by
     funext t;show cy [(2,AO.arr (E:=D.E) 16 (lC y.1 y.2.1 y.2.2) _ false)] t=if t=1 then none else if t=2 then _ else if t=0 then none else cy [(0,_),(1,_)] t
     rw[P,hi2,hr2,fh,fh,fh];by_cases h1:t=1
     ·subst h1;rfl
     ·by_cases h2:t=2
      ·grind
      ·by_cases h3:t=0
       ·subst h3;rfl
       ·grind
    rw[e];exact this
  have hmx:l.length+1<=9223372036854775807:=ω;by_cases z:l.length+1<=cap
  ·have QsH:∀j,w.frozen? ⟨m0.bZ,j,none⟩=false:=λj=>by simp only[World.frozen?,hC,hfz];simp
   have N:∀j,w.frozen? ⟨m1.bZ,j,none⟩=false:=λj=>by simp only[World.frozen?,V,hfz1];simp
   refine(ins.shift m0.bZ m0.sh l.length cap i m1.bZ m1.sh I cs d w s z ω hne g m p (λj hj=>?_) (λj _=>QsH _) f T U ins.R ins.R C1.size C.size (by simp[World.shape?,V]) (by simp[World.shape?,hC]) ω (N _) (N _)).mono λe w' ⟨K,hw⟩=>?_
   ·grind [World.cell?]
   ·subst K hw;obtain⟨C2,c1,c2,c3⟩:=fx m0.bZ _ fz (cs.drop (i*2)) (m0.sh+(i+1)*2) w.drew C hC ω;obtain⟨n,d1,d2,Q⟩:=fx m0.bZ _ fz d (m0.sh+i*2) _ C2 c1 ω;obtain⟨e1,e2,e3⟩:=dO m0.bZ (cs.drop (i*2)) (m0.sh+(i+1)*2) w.drew;obtain⟨f1,f2,f3⟩:=dO m0.bZ d (m0.sh+i*2) (w.drew.setCells m0.bZ (m0.sh+(i+1)*2) (cs.drop (i*2)));have Z:M.pl 2=none:=hT 2 (Zah 2)
    let mi:MI:=⟨m0.bZ,m0.sh,m0.qu,m0.jh,l.length+1,true⟩
    have hle:sx.Le M (M.add 2 mi):=Pm.qD Z;have hC0:∀q u,cs[q]?=some u->C[m0.sh+q]?=some u:=λq u h=>by
     grind [World.cell?]
    have x:∀q u,(cs.take (i*2)++(d++cs.drop (i*2)))[q]?=some u->n[m0.sh+q]?=some u:=λq u h=>by
     refine E6 (C:=λq=>n[m0.sh+q]?) g (Zcx s) m (λq hq=>?_) (λj hj=>?_) (λj hj=>?_) h
     ·grind
     ·show n[m0.sh+(i*2+j)]?=_
      rw[Q,Zac ω,show m0.sh+(i*2+j) -(m0.sh+i*2)=j by omega]
     ·show n[m0.sh+((i+1)*2+j)]?=_
      rw[Q,Zaa ω,c3,Zac ω,show m0.sh+((i+1)*2+j) -(m0.sh+(i+1)*2)=j by omega]
    have k:=cP.upon (M1:=M.add 2 mi) (sg1:=M.sg) (b0:=0) (b1:=2) (o1:=.arr 16 (lC l i r) 275 false) (rk:=m0) (Bd:=mi) (lo:=2) (hi:=3) (w':=(w.drew.setCells m0.bZ (m0.sh+(i+1)*2) (cs.drop (i*2))).setCells m0.bZ (m0.sh+i*2) d) J (show cy (sG.heap y) 0=some (.arr 16 l 275 false) by rw[<-P];rfl) rfl B H rfl rfl rfl (.inr ⟨rfl,Z,rfl⟩) (λ_ _ _ h=>h) (λ_ _ h=>.inl h)
     ((dN _ _ _ _).trans (dN _ _ _ _)) (λc hc=>(dx _ _ _ _ c hc).trans (dx _ _ _ _ c hc)) (f1.trans e1) (f2.trans e2) (f3.trans e3)
     ⟨F.symm,hz0,λ_=>⟨n,fz,d1,by rw[d2,c2,hCs],by rw[hnr];show m0.sh+_<=m0.qu;omega,λq u hu=>?_,λ_=>.inl hfz⟩⟩ (λo v h=>?_) (λ_ j _=>?_)
    ·exact L (M':=M.add 2 mi) (mi:=mi) rfl rfl hz0 rfl z htot k
    ·obtain⟨u',S,a2⟩:=W.get hu;exact⟨u',x q u' S,a2.mono hle⟩
    ·rw[J.sep 0 _ m0 (show cy (sG.heap y) 0=_ from rfl) rfl B H o trivial] at h;cases h
    ·exact J.sep 0 _ m0 (show cy (sG.heap y) 0=_ from rfl) rfl B H j trivial
  ·have hN:(ins.NU w l.length cap i cs).size=grownCap w (l.length+1) cap ins.R*2:=ins.AT (Zcx s) g;have hG:=grownCap_ge w (l.length+1) cap ins.R;refine(ins.grow m0.bZ m0.sh l.length cap i m1.bZ m1.sh I cs d w s X ω ω g m p f T U).mono λe w' ⟨K,hw⟩=>?_
   subst K;generalize hGG:grownCap w (l.length+1) cap ins.R=G at*
   generalize hRR:ins.NU w l.length cap i cs=a at*
   have hg:(w.alloc (.cells a ins.R)).drew.heap[w.heap.size]?=some (.cells a ins.R (0,0)):=by show(w.heap.push _)[w.heap.size]?=_;simp
   obtain⟨C2,c1,c2,c3⟩:=fx w.heap.size _ (0,0) d (i*2) _ a hg ω;obtain⟨n,d1,d2,Q⟩:=fx w.heap.size _ (0,0) (cs.drop (i*2)) ((i+1)*2) ((w.alloc (.cells a ins.R)).drew.setCells w.heap.size (i*2) d).drew C2 c1 ω;obtain⟨e1,e2,e3⟩:=dO w.heap.size d (i*2) (w.alloc (.cells a ins.R)).drew;obtain⟨f1,f2,f3⟩:=dO w.heap.size (cs.drop (i*2)) ((i+1)*2) ((w.alloc (.cells a ins.R)).drew.setCells w.heap.size (i*2) d).drew;have s1:=dN w.heap.size d (i*2) (w.alloc (.cells a ins.R)).drew;have s2:=dN w.heap.size (cs.drop (i*2)) ((i+1)*2) ((w.alloc (.cells a ins.R)).drew.setCells w.heap.size (i*2) d).drew;have b1:=dx w.heap.size d (i*2) (w.alloc (.cells a ins.R)).drew;have b2:=dx w.heap.size (cs.drop (i*2)) ((i+1)*2) ((w.alloc (.cells a ins.R)).drew.setCells w.heap.size (i*2) d).drew;rw[<-hw] at d1 f1 f2 f3 s2 b2;have dd:w'.heap.size=w.heap.size+1:=s2.trans (s1.trans (by show(w.heap.push _).size=_;simp));have hblk:∀c,c<w.heap.size->w'.heap[c]?=w.heap[c]?:=λc hc=>(b2 c ω).trans ((b1 c ω).trans (Below.heap_alloc _ _ _ hc))
   have Z:M.pl 2=none:=hT 2 (Zah 2)
   let mi:MI:=⟨w.heap.size,0,a.size,2,l.length+1,true⟩
   have hle:sx.Le M (M.add 2 mi):=Pm.qD Z;have x:∀q u,(cs.take (i*2)++(d++cs.drop (i*2)))[q]?=some u->n[0+q]?=some u:=λq u h=>by
    rw[Za6];refine E6 (C:=λq=>n[q]?) g (Zcx s) m (λq hq=>?_) (λj hj=>?_) (λj hj=>?_) h
    ·show n[q]?=_
     rw[Q,Zaa ω,c3,Zaa ω,<-hRR];have ht:(cs.take (i*2)).length=i*2:=by rw[Zar];omega
     show((cs.take (i*2)).toArray++_++_)[q]?=_
     rw[ZbT (by rw[Zct,Zb5];omega),ZbT (by rw[Zb5];omega),Zc0,Za7,Zac hq]
    ·show n[i*2+j]?=_
     rw[Q,Zaa ω,c3,Zac ω,show i*2+j-i*2=j by omega]
    ·show n[(i+1)*2+j]?=_
     rw[Q,Zac ω,show(i+1)*2+j-(i+1)*2=j by omega]
   have st1:=cP.nv (lo:=2) J Z (.arr 16 (lC l i r) 275 false) mi (λ_=>rfl) ω hblk (f1.trans e1) (f2.trans e2) (f3.trans e3)
    ⟨F.symm,rfl,λ_=>⟨n,(0,0),d1,by rw[d2,c2],by rw[hnr];show 0+_<=a.size;omega,λq u hu=>let ⟨u',S,a2⟩:=W.get hu;⟨u',x q u' S,a2.mono hle⟩,λ_=>.inl rfl⟩⟩ (λ_ _ _ h=>by cases h)
   have st2:=st1.trans (cP.drop (b:=0) st1.fJ 3);have e:(λc=>if c=2 then some (AO.arr (E:=D.E) 16 (lC l i r) 275 false) else if c=0 then none else cy (sG.heap y) c)=jc (jc (λt=>cy (sG.heap y) t) 2 (some (.arr 16 (lC l i r) 275 false))) 0 none:=by
    funext t;grind [jc]
   exact L (M':=M.add 2 mi) (mi:=mi) rfl rfl rfl rfl hG (by show 0+G*2=a.size;omega) (by rw[e];exact st2)
theorem ϱ {k:By} (h:jQ l k):lH l k<l.length:=by
 obtain⟨r,a,e⟩:=ZcT.1 h;refine List.findIdx_lt_length_of_exists ⟨r,a,?_⟩;grind
theorem Qk0:Ok HC:=okZ (V:=Qb0) [Nh,sG] f112 (λ_=>⟨[],[5],[],[],1,[]⟩) ⟨Qic,Qb1⟩ λy a=>by
 unfold Qb0;simp only[bN,bh,aw,br,a8,cO,di,Zad];have b:lH y.l y.k<=y.l.length:=ZdL;refine⟨a,λh=>?_,λh=>?_⟩
 ·grind [rb,ϱ]
 ·have e:lC y.l (lH y.l y.k) ([(⟨y.k,y.v⟩:Row)].getD 0 HB)=rb y.l y.k y.v:=by unfold rb lC;rw[h,Zaa (by decide)];rfl
  exact⟨⟨b,a.2⟩,rfl,rfl,(by rw[h];rfl),ZaR (λl:List Row=>(l.length:Int)) e,e⟩
end
end sx
namespace sx
open Go Go.RowKit cls syn
set_option maxRecDepth 100000
noncomputable section
def NY:bk D:=bP 250 (List Rg) BH (λy=>y.length<=10/\aX y=y) (λy=>[.list 6 y]) λy=>.list 6 y
def Qk1:Ok NY:=⟨Lx.1,λy c M A w f h i R g=>by
 have c:y.length<=10/\aX y=y:=c;refine Lx.2 y (by show y.length<=_;omega) M A w f h i R λd e j a b=>g d e j ?_ b
 have a:VR d (.list 6 (aX y)) e:=a;rw[c.2] at a;exact a⟩
def cdK (t:TypeId):Option Nat:=bif Nat.beq t (nat_lit 4000000000) then some (nat_lit 0) else cdD t
def vcI (tab:s6) (a:List (Nat×List Nat)) (un n:Nat) (fn:Func) (k:bk D) (mu:List Nat) (y:k.Y):Prop:=bif Nat.ble (kg (k.args y)) fn.ntmps then OU prog D cdK (inl prog D cdK un tab a n) ⟨[],mu,[],[],un,[]⟩ fn.ntmps k (BA fn) fn.results.toList y else False
def okI {k:bk D} {V:k.Y->Prop} (tab:s6) (c:List (Nat×List Nat)) (un n:Nat) (fn:Func) (mu:List Nat) (ht:Qk tab) (h:∀y,k.pre y->V y) (l:∀y,V y=vcI tab c un n fn k mu y:=by intro y;kernel_rfl)
  (b:Tryz.prog.funcs[k.f]?=some fn:=by kernel_rfl) (e:fn.body.isSome:=by kernel_rfl):Ok k:=by
 refine⟨⟨fn,_,b,cI e⟩,λy m=>?_⟩;have a:=Eq.mp (l y) (h y m);unfold vcI at a;rw[tY] at a;by_cases d:Nat.ble (k.args y).length fn.ntmps
 ·rw[d] at a;exact λM A w hl i j R g=>nF gb mixed vq b (cI e) (VZ gb mixed vq ht.all c n) (ZcY d) a M A w hl i j R g
 ·rw[Bool.not_eq_true] at d;rw[d] at a;exact a.elim
def QsI:List (Nat×List Nat):=[(290,[4]),(204,[3]),(19,[3,5]),(216,[6,7]),(220,[9]),(291,[13]),(166,[6]),(243,[1,2]),(112,[5])]
end
end sx
namespace sx
open Go Go.RowKit cls syn
set_option maxRecDepth 100000
abbrev RAK (p:Prop):Prop:=aa ([1]:List (Int)) p
def V3 (_:Unit):Prop:=let O:List Gt:=[(120,1)];let w:List Rg:=[(120,120)];let P:List Nd:=[⟨2,[(120,120)],0,0,false,0,0⟩];let Q:List Gt:=[(94,1),(32,1)];let A:List Rg:=[(32,32)];let B:List Nd:=[⟨3,[],0,0,false,0,2⟩,⟨7,[],0,0,false,0,0⟩,⟨2,[(32,32)],0,0,false,0,0⟩];let F:List aV:=[⟨4,0,0,[]⟩,⟨5,0,0,[]⟩,⟨1,0,0,[(32,32)]⟩,⟨4,1,0,[]⟩,⟨7,0,0,[]⟩];let J:List aV:=[⟨4,0,0,[]⟩,⟨1,0,0,[(120,120)]⟩,⟨4,1,0,[]⟩,⟨7,0,0,[]⟩];let d8:List Int:=[0,0,0,0];let U:List Int:=[0,0,0,0,0];let d10:List bA:=[⟨2,1,(-1),(-1),(-1),(-1),(-1),(-1),(-1),(-1),(-1)⟩];let d11:List bA:=[⟨3,0,(-1),(-1),(-1),(-1),(-1),(-1),(-1),(-1),(-1)⟩];let d12:List bA:=[⟨2,2,(-1),(-1),(-1),(-1),(-1),(-1),(-1),(-1),(-1)⟩];let R:=λp:Prop=>RAQ ((-1):Int) ((-1):Int) (p);let K:=λp:Prop=>Iv (BF.pre (⟨⟨[⟨4,0,0,[]⟩,⟨5,0,0,[]⟩,⟨1,0,0,[(32,32)]⟩,⟨4,1,0,[]⟩,⟨7,0,0,[]⟩],[0]⟩,0,[],⟨[0,0,0,0,0],[]⟩⟩:kz))/\(aa ([F]:List (List aV)) (p));let L:=λp:Prop=>Iv (BF.pre (⟨⟨[⟨4,0,0,[]⟩,⟨1,0,0,[(120,120)]⟩,⟨4,1,0,[]⟩,⟨7,0,0,[]⟩],[0]⟩,0,[],⟨[0,0,0,0],[]⟩⟩:kz))/\(aa ([J]:List (List aV)) (p));let l:=λp:Prop=>RAQ (0:Int) (0:Int) (p);let T:=λp:Prop=>R (R (p));let M:=λp:Prop=>Iv (NY.pre ([(120,120)]:List Rg))/\(RAP (w:List Rg) (p));let N:=λp:Prop=>Iv (NY.pre ([(32,32)]:List Rg))/\(RAP (A:List Rg) (p));let x:=λp:Prop=>RAK (Iv True/\(p));let H:=λp:Prop=>l (RAP (false:Bool) (p));let S:=λp:Prop=>RAQ (0:Int) (1:Int) (p);let c:=λp:Prop=>l (RAP ([]:List Rg) (p));let a:=λp:Prop=>RAQ (4:Int) (0:Int) (p);let y:=λp:Prop=>RAK (aa ([J]:List (List aV)) (p));let u:=λp:Prop=>T (T (p));let g:=λp:Prop=>aa ([[0],[0]]:List (List Int)) (p);let f:=λp:Prop=>aa ([Q,Q]:List (List Gt)) (p);let d:=λp:Prop=>RAQ (5:Int) (0:Int) (p);let i:=λp:Prop=>RAP ([0]:List Int) (l (p));let b:=λp:Prop=>l (S (p));let j:=λp:Prop=>aa ([J]:List (List aV)) (RAP (4:Int) (p));let e:=λp:Prop=>u (RAK (p));let m:=λp:Prop=>RAP ([0]:List Int) (RAK (p));let n:=λp:Prop=>RAQ (120:Int) (120:Int) (p);let o:=λp:Prop=>RAK (aa ([F]:List (List aV)) (p));let G:=λp:Prop=>RAK (l (p));let k:=λp:Prop=>RAP (4:Int) (y (p));let I:=λp:Prop=>u (R (p));let q:=λp:Prop=>RAP ([]:List Rg) (H (p));let r:=λp:Prop=>RAQ (32:Int) (32:Int) (p);let s:=λp:Prop=>G (RAP (w:List Rg) (p));let h:=λp:Prop=>u (I (RAQ ((-1):Int) (1:Int) (p)));let z:=λp:Prop=>aa ([F]:List (List aV)) (RAP (4:Int) (p));let v:=λp:Prop=>RAQ (1:Int) (2:Int) (p);let C:=λp:Prop=>aa ([O,O]:List (List Gt)) (p);let D:=λp:Prop=>RAQ ([]:List Item) (d8:List Int) (p);let E:=λp:Prop=>RAQ ([]:List Item) (U:List Int) (p);let t:=λp:Prop=>c (RAP (5:Int) (p));Iv (sG.pre ([],(0,⟨[97],0⟩)))/\(l (RAK (aa ([[⟨[97],0⟩],[]]:List (List Row)) (C (C (aa ([O]:List (List Gt)) (M (C (C (C (aa ([O]:List (List Gt)) (aa ([P,P]:List (List Nd)) (aa ([2]:List (Int)) (aa ([w]:List (List Rg)) (H (l (M (n (n (aa ([2]:List (Int)) (aa ([w]:List (List Rg)) (H (l (f (f (f (f (f (f (f (f (f (N (f (f (f (aa ([Q]:List (List Gt)) (aa ([P,P]:List (List Nd)) (aa ([2]:List (Int)) (aa ([w]:List (List Rg)) (H (l (M (n (n (aa ([2]:List (Int)) (aa ([w]:List (List Rg)) (H (l (aa ([1]:List (Int)) (aa ([[⟨4,0,0,[]⟩]]:List (List aV)) (aa ([w]:List (List Rg)) (aa ([[⟨4,0,0,[]⟩,⟨1,0,0,[(120,120)]⟩],[⟨4,0,0,[]⟩,⟨1,0,0,[(120,120)]⟩,⟨4,1,0,[]⟩]]:List (List aV)) (aa ([B,B]:List (List Nd)) (aa ([3]:List (Int)) (q (aa ([0,2,3]:List (Int)) (q (aa ([0,2]:List (Int)) (aa ([B,B]:List (List Nd)) (aa ([7]:List (Int)) (q (l (aa ([7]:List (Int)) (q (l (aa ([B,B]:List (List Nd)) (aa ([2]:List (Int)) (aa ([A]:List (List Rg)) (H (l (N (r (r (aa ([2]:List (Int)) (aa ([A]:List (List Rg)) (H (l (aa ([B,B]:List (List Nd)) (aa ([3]:List (Int)) (q (aa ([0,2,3]:List (Int)) (q (aa ([0,2]:List (Int)) (aa ([B,B]:List (List Nd)) (aa ([7]:List (Int)) (q (l (aa ([7]:List (Int)) (q (l (aa ([B,B]:List (List Nd)) (aa ([2]:List (Int)) (aa ([A]:List (List Rg)) (H (l (N (r (r (aa ([2]:List (Int)) (aa ([A]:List (List Rg)) (H (l (aa ([3]:List (Int)) (aa ([[⟨4,0,0,[]⟩],[⟨4,0,0,[]⟩,⟨5,0,0,[]⟩]]:List (List aV)) (aa ([A]:List (List Rg)) (aa ([[⟨4,0,0,[]⟩,⟨5,0,0,[]⟩,⟨1,0,0,[(32,32)]⟩],[⟨4,0,0,[]⟩,⟨5,0,0,[]⟩,⟨1,0,0,[(32,32)]⟩,⟨4,1,0,[]⟩],F]:List (List aV)) (aa ([[0]]:List (List Int)) (aa ([[94,32],[94,32],[94,32]]:List (By)) (M (n (n (L (i (a (D (aa ([[]]:List (List b5)) (N (r (r (K (i (d (E (aa ([[]]:List (List b5)) (Iv True/\(aa ([97]:List (Int)) (b (a (j (c (k (s (h (y (aa ([w]:List (List Rg)) (a (g (m (x (aa ([97]:List (Int)) (b (d (z (t (o (aa ([5]:List (Int)) (t (aa ([2]:List (Int)) (aa ([F]:List (List aV)) (G (aa ([A]:List (List Rg)) (h (o (aa ([A]:List (List Rg)) (d (g (m (x (aa ([120]:List (Int)) (b (a (j (c (k (s (h (aa ([1]:List (Int)) (a (aa ([J]:List (List aV)) (aa ([w]:List (List Rg)) (aa ([4,1]:List (Int)) (aa ([[0]]:List (List Int)) (aa ([d10,d10]:List (List bA)) (g (aa ([1]:List (Int)) (x (aa ([120]:List (Int)) (b (d (z (t (o (aa ([5]:List (Int)) (c (I (d (g (m (aa ([1,1,4]:List (Int)) (j (aa ([1,0]:List (Int)) (aa ([[]]:List (List Rg)) (k (aa ([7]:List (Int)) (c (aa ([1]:List (Int)) (e (e (u (Iv True/\(aa ([10]:List (Int)) (b (a (j (aa ([1,0]:List (Int)) (aa ([[]]:List (List Rg)) (k (aa ([7]:List (Int)) (c (aa ([1]:List (Int)) (e (e (e (aa ([1]:List (Int)) (L (i (a (D (aa ([[]]:List (List b5)) (K (i (d (E (aa ([[]]:List (List b5)) (Iv True/\(aa ([32]:List (Int)) (b (a (j (c (k (s (h (y (aa ([w]:List (List Rg)) (a (g (m (x (aa ([32]:List (Int)) (b (d (z (t (o (aa ([5]:List (Int)) (t (aa ([2]:List (Int)) (aa ([F]:List (List aV)) (G (aa ([A]:List (List Rg)) (h (aa ([1]:List (Int)) (d (aa ([F]:List (List aV)) (aa ([A]:List (List Rg)) (aa ([5,1]:List (Int)) (aa ([[0]]:List (List Int)) (aa ([d11,d11]:List (List bA)) (g (aa ([1]:List (Int)) (x (aa ([32]:List (Int)) (b (v (e (x (aa ([98]:List (Int)) (b (a (j (c (k (s (h (y (aa ([w]:List (List Rg)) (a (g (m (x (aa ([98]:List (Int)) (b (d (z (aa ([1,0]:List (Int)) (aa ([[]]:List (List Rg)) (aa ([5]:List (Int)) (o (aa ([7]:List (Int)) (c (aa ([0]:List (Int)) (u (aa ([0]:List (Int)) (u (aa ([0]:List (Int)) (e (x (aa ([98]:List (Int)) (b (v (e (x (aa ([120]:List (Int)) (b (a (j (c (k (s (h (aa ([1]:List (Int)) (a (aa ([J]:List (List aV)) (aa ([w]:List (List Rg)) (aa ([4,1]:List (Int)) (aa ([[0]]:List (List Int)) (aa ([d12,d12]:List (List bA)) (g (aa ([1]:List (Int)) (x (aa ([120]:List (Int)) (b (S (e (x (aa ([120]:List (Int)) (b (v (e (aa ([1,1]:List (Int)) (S (e (v (u (Iv True/\(aa ([10]:List (Int)) (b (v (e (aa ([1]:List (Int)) (L (i (a (D (aa ([[]]:List (List b5)) (K (i (d (E (aa ([[]]:List (List b5)) (Iv True/\(aa ([99]:List (Int)) (b (a (j (c (k (s (h (y (aa ([w]:List (List Rg)) (a (g (m (x (aa ([99]:List (Int)) (b (d (z (t (o (aa ([5]:List (Int)) (t (aa ([2]:List (Int)) (aa ([F]:List (List aV)) (G (aa ([A]:List (List Rg)) (h (o (aa ([A]:List (List Rg)) (d (g (m (x (aa ([99]:List (Int)) (b (v (e (aa ([1,1,5]:List (Int)) (z (t (o (aa ([5]:List (Int)) (c (I (v (e (aa ([4]:List (Int)) (j (c (k (s (h (x (aa ([10]:List (Int)) (b (a (j (c (k (s (h (y (aa ([w]:List (List Rg)) (a (g (m (aa ([1]:List (Int)) (L (i (a (D (aa ([[]]:List (List b5)) (K (i (d (E (aa ([[]]:List (List b5)) (aa ([1,1,1]:List (Int)) (aa ([[⟨false,(-1),(-1),(-1),(-1),(-1),(-1),(-1),(-1),(-1),(-1),[]⟩]]:List (List b5)) (aa ([F]:List (List aV)) (aa ([[0]]:List (List Int)) (aa ([[94,32],[94,32],[94,32]]:List (By)) (M (n (n (L (i (a (D (aa ([[]]:List (List b5)) (N (r (r (K (i (d (E (aa ([[]]:List (List b5)) (aa ([1,1]:List (Int)) (True)))))))))))))))))))))))))))))))))))))))))))))))))))))))))))))))))))))))))))))))))))))))))))))))))))))))))))))))))))))))))))))))))))))))))))))))))))))))))))))))))))))))))))))))))))))))))))))))))))))))))))))))))))))))))))))))))))))))))))))))))))))))))))))))))))))))))))))))))))))))))))))))))))))))))))))))))))))))))))))))))))))))))))))))))))))))))))))))))))))))))))))))))))))))))))))))))))))))))))))))))))))))))))))))))))))))))))))))))))))))))))))))))))))
def E7 {a:Int} (h:dZ (a,a)=[(a,a)]):aX [(a,a)]=[(a,a)]:=by
 unfold aX;simp only[Zbt,List.flatMap_nil,Zaw,h,List.mergeSort_singleton];rfl
def QsJ (y:Unit):V3 y:=by
 have a:NY.pre ([(120,120)]:List Rg):=⟨by decide,E7 (by kernel_rfl)⟩;have b:NY.pre ([(32,32)]:List Rg):=⟨by decide,E7 (by kernel_rfl)⟩;have c:sG.pre ([],(0,⟨[97],0⟩)):=⟨Zah _,Zaj _⟩;have v:∀(p:ej) (s:ow),p.aj.length<=10->BF.pre (⟨p,0,[],s⟩:kz):=λp s h=>by
  show p.aj.length+0<=1000000
  omega
 unfold V3;simp only[bh,a,b,c]
 with_reducible repeat' apply And.intro
 all_goals exact v _ _ (by decide)
def Qk2:Ok Qeh:=okI (V:=V3) [NY,sG,Q_ 1,Q_ 2,Q_ 3,Q_ 4,BF] QsI 400 40 f19 [3,5] ⟨Qk1,Qb1,J8 1 (by decide) (by decide),J8 2 (by decide) (by decide),J8 3 (by decide) (by decide),J8 4 (by decide) (by decide),Qaw⟩ λy _=>QsJ y
end sx
namespace bld
open Go Go.RowKit
abbrev BT:TypeId:=369
abbrev self (b:Nat):Value:=.pointer (some ⟨b,0,none⟩)
theorem Qb2:∃j,Tryz.prog.info? BT=some j/\j.size=2:=by
 obtain⟨j,a,hs⟩:=ZdM.1 (show(Tryz.prog.info? BT).map (·.size)=some 2 by kernel_rfl);grind
set_option maxHeartbeats 2000000 in
set_option maxRecDepth 100000 in
theorem NZ (b:Nat) (w:World) (h0:w.cell? ⟨b,0,none⟩=some (self b)):
  Calls prog 306 #[self b] w λe d=>e=.returned (.tuple #[])/\d=w:=by
 obtain⟨j,a,c⟩:=Qb2
 go_enter Tryz.func306,Tryz.ntmps306
 go_wp2
 rw[Lib.run_neq_ptr_same w _ Tryz.underlying367 a]
 go_wp2
 go_end0
 grind
set_option maxHeartbeats 2000000 in
set_option maxRecDepth 100000 in
theorem IT (b:Nat) (w:World) (h0:w.cell? ⟨b,0,none⟩=some (.pointer none)) (a:w.shape? b=some (BT,2)) (d:w.frozen? ⟨b,0,none⟩=false):
  Calls prog 306 #[self b] w λe g=>e=.returned (.tuple #[])/\g=w.setCell ⟨b,0,none⟩ (self b):=by
 obtain⟨j,c,f⟩:=Qb2
 go_enter Tryz.func306,Tryz.ntmps306
 go_wp2
 rw[Lib.run_to_unsafe w ⟨b,0,none⟩ Tryz.underlying367 Tryz.underlying390 c ω a (Nat.zero_lt_succ 1)]
 simp only[Result.andThen]
 rw[Oper.upon_value]
 go_wp2
 rw[run_callFunc_extern Tryz.func317 (by kernel_rfl) (by kernel_rfl) (by kernel_rfl) (e:=Extern.AbiNoEscape.same) (by kernel_rfl)]
 rw[Lib.run_noEscape]
 simp only[Result.andThen]
 rw[Oper.upon_value]
 go_wp2
 rw[Lib.run_from_unsafe w ⟨b,0,none⟩ Tryz.underlying390 Tryz.underlying367 c a (by kernel_rfl)]
 simp only[Result.andThen]
 rw[Oper.upon_value]
 go_wp2
 go_end0
 grind
section
variable {P:Program}
def liesAt_bytes {e:TypeId} (b:P.cellsOf e=1) (count o n:Nat) (c:o+n<=count):liesAt P P.depth e count o e n:=by
 have a:P.depth=(2*(P.types.size+Made.depth)+1)+1:=rfl;rw[a];simp only[liesAt,ZbM];left;rw[a];simp[rowAt,b,c,sameLayout,Nat.mod_one]
theorem tG (w:World) (pt it ty e:TypeId) (hp:P.underlying pt=some (.pointer e)) (hc:P.cellsOf e=1) (g o cells:Nat) (hsh:w.shape? g=some (e,cells)) (l:List UInt8) (h0:l≠[]) (hn:o+l.length<=cells) (h63:l.length<=9223372036854775807)
  (hcell:∀j x,l[j]?=some x->w.cell? ((⟨g,o,none⟩:Addr).add j)=some (.int .u8 x.toNat)):
  (Builtin.unsafeString_ #[pt,it] ty #[.pointer (some ⟨g,o,none⟩),.int .i64 l.length]).run P w=.ok (.string ⟨l.toArray⟩) (w.freeze ⟨g,o,none⟩ l.length):=by
 have hl:l.length≠0:=by grind
 have hlb:=Lib.run_loadBytes (P:=P) w l ⟨g,o,none⟩ .empty hcell;have hlies:=liesAt_bytes (P:=P) hc (cells / P.cellsOf e) o l.length (by grind);have h63':¬(9223372036854775807:Int)<(l.length:Int):=ω;have hdef:Builtin.unsafeString_ #[pt,it] ty #[.pointer (some ⟨g,o,none⟩),.int .i64 l.length]=
   (do
    let n <-asInt (.int .i64 l.length)
    if n<0 then runtimePanic (.error "unsafe.String: len out of range")
    if n>IntKind.i64.max then unsupported (.unsafePointer "String: a length above the largest int")
    if n=0 then pure (.string .empty)
    else if <-variablesAt ⟨g,o,none⟩ (<-elemOf pt) n.toNat then do
     let s <-loadBytes ⟨g,o,none⟩ .empty n.toNat
     freeze ⟨g,o,none⟩ n.toNat
     pure (.string s)
    else unsupported (.unsafePointer "String: not so many bytes at ptr")):=rfl
 rw[hdef];have hmax:IntKind.i64.max=9223372036854775807:=rfl;have hneg:¬(l.length:Int)<0:=ω;simp[asInt,asIntOf,hmax,h63',hneg,hl,variablesAt,hsh,elemOf,Zza hp,hlies,hlb]
end
set_option maxHeartbeats 1000000 in
set_option maxRecDepth 100000 in
theorem QsK (b g o cap:Nat) (p:Value) (l:List UInt8) (C:Array Value) (i c:Nat×Nat) (w:World) (h0:l≠[]) (f:w.heap[b]?=some (.cells #[p,.slice (some ⟨g,o,none⟩) l.length cap] BT i))
  (n:w.heap[g]?=some (.cells C 5 c)) (r:o+l.length<=C.size) (t:l.length<=cap) (d:l.length<=9223372036854775807)
  (a:∀j x,l[j]?=some x->w.cell? ((⟨g,o,none⟩:Addr).add j)=some (.int .u8 x.toNat)):
  Calls prog 297 #[self b] w λe s=>e=.returned (.string ⟨l.toArray⟩)/\s=w.drew.freeze ⟨g,o,none⟩ l.length:=by
 have q:l.length≠0:=by grind
 have c1:w.drew.cell? ⟨b,1,none⟩=some (.slice (some ⟨g,o,none⟩) l.length cap):=by
  have:w.drew.heap[b]?=some (.cells #[p,.slice (some ⟨g,o,none⟩) l.length cap] BT i):=f
  rw[Lib.cell_of_heap this];rfl
 have k:(Builtin.unsafeSliceData_ #[29] 380 #[.slice (some ⟨g,o,none⟩) l.length cap]).run prog w.drew=.ok (.pointer (some ⟨g,o,none⟩)) w.drew:=
  Lib.run_unsafeSliceData_row _ _ _ _ _ _ ω
 have m:(Builtin.unsafeString_ #[380,3] 9 #[.pointer (some ⟨g,o,none⟩),.int .i64 l.length]).run prog w.drew=.ok (.string ⟨l.toArray⟩) (w.drew.freeze ⟨g,o,none⟩ l.length):=by
  refine tG w.drew 380 3 9 5 Tryz.underlying380 (by kernel_rfl) g o C.size (by have h:w.drew.heap[g]?=some (.cells C 5 c):=n;simp[World.shape?,h]) l h0 r d a
 have mixed:Tryz.prog.follows .mixedOrders=true:=by kernel_rfl
 go_enter Tryz.func297,Tryz.ntmps297
 go_wp2
 go_region_o
 all_goals (go_wp2;go_ret;exact⟨rfl,rfl⟩)
set_option maxHeartbeats 2000000 in
set_option maxRecDepth 100000 in
theorem QsL (b:Nat) (p:Value) (c:Nat×Nat) (w:World) (a:w.heap[b]?=some (.cells #[p,.slice none 0 0] BT c)):
  Calls prog 297 #[self b] w λe g=>e=.returned (.string ⟨#[]⟩)/\g=w.drew:=by
 have f:∀(W:World) (q:Option Addr),(Builtin.unsafeString_ #[380,3] 9 #[.pointer q,.int .i64 0]).run prog W=.ok (.string .empty) W:=λW q=>Lib.run_unsafeString_none W _ _ _ q
 have c1:w.drew.cell? ⟨b,1,none⟩=some (.slice none 0 0):=by
  have:w.drew.heap[b]?=some (.cells #[p,.slice none 0 0] BT c):=a
  rw[Lib.cell_of_heap this];rfl
 have d:(Builtin.unsafeSliceData_ #[29] 380 #[.slice none 0 0]).run prog w.drew=.ok (.pointer none) w.drew:=rfl
 have mixed:Tryz.prog.follows .mixedOrders=true:=by kernel_rfl
 go_enter Tryz.func297,Tryz.ntmps297
 go_wp2
 go_region_o
 all_goals (go_wp2;go_ret;exact⟨rfl,rfl⟩)
end bld
set_option maxRecDepth 100000
set_option maxHeartbeats 4000000
namespace sx
noncomputable section
open Go Go.RowKit cls syn
variable {x:Nat} {b:By} {G:List Gt}
def Qb3 (y:Int):Prop:=let a:=([b8 y]:List UInt8);let q1:=([UInt8.ofNat y.toNat]:List UInt8);Iv True/\bF (ah a) 1/\ah a=ah q1/\a=q1/\True
def Qb4 (y:(List UInt8)×Int):Prop:=let a:=bM y.1 [b8 y.2];Iv True/\aa [ah y.1] (aa [y.1] (bF (ah a) 1/\ah a=ah (y.1++[UInt8.ofNat y.2.toNat])/\a=(y.1++[UInt8.ofNat y.2.toNat])/\True))
def Qk3 (y:Unit):Prop:=
 (0:Int)=(0:Int)/\
 True
def Qb5 (y:List UInt8):Prop:=aa [ah y,ah y] (aa [y] (True))
def V4 (y:(List (Int×Int))×b_):Prop:=let f:=y.1.length;let q1:=ah y.1;let r:=gF y.1 (nn y.2);let s:=gO y.1 (nn y.2);let t:=((cr y.1 (f-y.2.i.toNat) y.2.i.toNat []).1:Int);let C:=λp:Prop=>aa [y.2.i] p;let v:=λp:Prop=>aa [y.1] (aa [bQ y.1] p);let A:=λp:Prop=>aa [y.2.i] (aa [y.1] (aa [bQ y.1] p));let B:=λp:Prop=>aa [y.2.aq,y.2.ab,y.2.au,y.2.wh] p;let u:Prop:=(y.2.aq=((y.2.aq.toNat:Nat):Int)/\y.2.ab=((y.2.ab.toNat:Nat):Int)/\aa [y.2.au,y.2.wh] (True));∃z:Unit,(∃w:Nat,A (y.2.i=(w:Int)/\B ((Iv (tg y w [])))))/\(∀x:Nat,let l:=aD .i64 (x:Int) 1;let d:=(gt (0,0) y.1 (x:Int).toNat).1;let h:=vT .u8 d;let m:=([UInt8.ofNat h.toNat]:List UInt8);let q:=λp:Prop=>aa [y.1] (aa [(x:Int),d] p);let j:Prop:=(Iv True/\aa [(x:Int),(x:Int)] ([]=s/\az y.2.i (x:Int)=r/\v ((x:Int)=t/\u)));let n:Prop:=(aI 0 (x:Int)/\az (x:Int) q1/\Iv (F_ h)/\aa [h] (aa [y.1] (aa [(x:Int),d] (((∃b:Nat,y.2.i=y.2.i/\False)\/(∃b:Nat×(List UInt8),y.2.i=y.2.i/\ah m=ah b.2/\m=b.2/\y.1=y.1/\bQ y.1=bQ y.1/\l=(b.1:Int)/\y.2.aq=y.2.aq/\y.2.ab=y.2.ab/\y.2.au=y.2.au/\y.2.wh=y.2.wh/\Iv ((tg y b.1 b.2/\Ne b.2 [])/\(f-b.1)<(f-x))))))));(Iv (tg y x []))->ak (az (x:Int) q1) (aI 0 (x:Int)/\az (x:Int) q1/\ak (aI 48 d) (aI 0 (x:Int)/\az (x:Int) q1/\aa [(x:Int)] (aa [y.1,y.1] (aa [(x:Int),d] (aa [y.1] (aa [(x:Int),d] (ak (aI d 57) (aI 0 (x:Int)/\az (x:Int) q1/\ak (az 48 d) (q (n)) (Iv True/\q (ak (az 0 0) (n) (((∃b:Nat,y.2.i=y.2.i/\y.1=y.1/\bQ y.1=bQ y.1/\l=(b:Int)/\y.2.aq=y.2.aq/\y.2.ab=y.2.ab/\y.2.au=y.2.au/\y.2.wh=y.2.wh/\Iv (tg y b []/\(f-b)<(f-x)))\/(∃b:Nat×(List UInt8),y.2.i=y.2.i/\False)))))) (j))))))) (aa [(x:Int)] (aa [y.1,y.1] (aa [(x:Int),d] (j))))) (aa [(x:Int)] (aa [y.1] (j))))/\(∀x:Nat×(List UInt8),let e:=ah x.2;let a:=(x.1:Int);let c:=(gt (0,0) y.1 a.toNat).1;let g:=vT .u8 c;let k:Prop:=(Iv (Ne x.2 [])/\aa [e] (aa [x.2] (aa [a,a] (x.2=s/\az y.2.i a=r/\v (a=t/\u)))));let o:Prop:=(aI 0 a/\az a q1/\Iv (x.2.length<=1000000/\F_ g)/\aa [g,e] (aa [x.2] (aa [y.1] (aa [a,c] (((∃b:Nat,y.2.i=y.2.i/\False)\/(∃b:Nat×(List UInt8),y.2.i=y.2.i/\ah (x.2++[UInt8.ofNat g.toNat])=ah b.2/\(x.2++[UInt8.ofNat g.toNat])=b.2/\y.1=y.1/\bQ y.1=bQ y.1/\aD .i64 a 1=(b.1:Int)/\y.2.aq=y.2.aq/\y.2.ab=y.2.ab/\y.2.au=y.2.au/\y.2.wh=y.2.wh/\Iv ((tg y b.1 b.2/\Ne b.2 [])/\(f-b.1)<(f-x.1)))))))));(Iv (tg y x.1 x.2/\Ne x.2 []))->ak (az a q1) (aI 0 a/\az a q1/\ak (aI 48 c) (aI 0 a/\az a q1/\aa [a] (aa [y.1,y.1] (aa [a,c] (aa [y.1] (aa [a,c] (ak (aI c 57) (aI 0 a/\az a q1/\ak (az 48 c) (aa [y.1] (aa [a,c] (o))) (Iv True/\aa [e] (aa [x.2] (aa [y.1] (aa [a,c] (ak (az 0 e) (o) (((∃b:Nat,y.2.i=y.2.i/\False)\/(∃b:Nat×(List UInt8),y.2.i=y.2.i/\e=ah b.2/\x.2=b.2/\y.1=y.1/\bQ y.1=bQ y.1/\aD .i64 a 1=(b.1:Int)/\y.2.aq=y.2.aq/\y.2.ab=y.2.ab/\y.2.au=y.2.au/\y.2.wh=y.2.wh/\Iv ((tg y b.1 b.2/\Ne b.2 [])/\(f-b.1)<(f-x.1))))))))))) (k))))))) (aa [a] (aa [y.1,y.1] (aa [a,c] (k))))) (aa [a] (aa [y.1] (k))))
theorem Qk4:Ok QgJ:=by
 refine⟨⟨f306,_,by kernel_rfl,cI (by kernel_rfl)⟩,λy o M A w f c _ R h=>?_⟩;obtain⟨v,rfl,k⟩:=xl f;cases k with
 | ptr d n=>
  obtain⟨_,hs,ht,C,m,g,hl,_⟩:=o5 c (b:=0) (cs:=[.ptr 0 0,.own 1 1 (ah y)]) rfl d;obtain⟨p,q,rfl,h0,h1⟩:=DO hl;cases h0 with
  | ptr a j=>
   rw[d] at a;cases a;rw[hs];refine(bld.NZ _ w (by rw[Lib.cell_of_heap g,hs];rfl)).mono λe l ⟨i,hw⟩=>?_
   subst i hw;exact h M _ l (VR.CK .nil) (.refl c 2)
theorem Qk5:Ok XT:=by
 refine⟨⟨f306,_,by kernel_rfl,cI (by kernel_rfl)⟩,λy D M A w p k _ R r=>?_⟩;obtain⟨v,rfl,u⟩:=xl p;cases u with
 | @ptr _ _ x f g=>
  obtain⟨_,hs,ht,C,m,c,hl,d⟩:=o5 k (b:=0) (cs:=[.fC,.cW]) rfl f;obtain⟨E,F,rfl,h0,h1⟩:=DO hl;cases h0;cases h1;rw[hs];have a:=d rfl;refine(bld.IT _ w (by rw[Lib.cell_of_heap c];rfl) (by simp[World.shape?,c]) (by
   simp only[World.frozen?,c];rcases a with h | h
   ·rw[h];simp;try omega
   ·have:=h.1;simp at this ⊢;try omega)).mono λe G ⟨s,hw⟩=>?_
  subst s hw;obtain⟨_,_,j⟩:=rD (o1:=.cells [.ptr 0 0,.cW] 369 false) (q:=0) (vs':=[bld.self x.bZ]) (b:=0) k rfl rfl f g c (by grind) (by grind) ω (λ_=>trivial) (λl z H B=>⟨⟨g,hs,ht⟩,l,m,z,by grind,by grind,(λi v e=>by
   rw[hs,Za6,B]
   match i,e with
   | 0,e=>cases e;exact⟨_,rfl,by have:=VR.ptr (o:=0) f g;rw[hs] at this;exact this⟩
   | 1,e=>cases e;exact⟨_,rfl,.cW⟩
   | n+2,e=>cases e),λ_=>ω⟩) 1
  refine r M _ _ (VR.CK .nil) ?_;have e:(λt=>cy (XT.iE y) t)=jc (λt=>cy (XT.heap y) t) 0 (some (.cells [.ptr 0 0,.cW] 369 false)):=by
   funext t;show cy (RC 0 (.ptr 0 0)) t=_
   unfold jc RC;by_cases ht:t=0
   ·subst ht;rfl
   ·rw[Zaa ht,fh,Zaa (λh=>ht h.symm)];show cy [] t=cy (RC 0 .fC) t
    grind [RC,fh]
  rw[e];exact j
theorem LA {M:Pm D} {H:Hp D} {w:World} (i:dX M H w) {b:Nat} {o:AO D.E} {d:MI} (k:H b=some o) (hw:o.wr) (g:∀j,o.sO d j) (l:M.pl b=some d) (p:d.real) (a:Addr) (G:a.block=d.bZ) (n lo:Nat):
  cP H M w (λ_=>none) M (w.drew.freeze a n) lo lo:=by
 have f:∀W:World,(W.freeze a n).os=W.os/\(W.freeze a n).tape=W.tape/\(W.freeze a n).output=W.output/\(W.freeze a n).heap.size=W.heap.size/\∀c,c≠d.bZ->(W.freeze a n).heap[c]?=W.heap[c]?:=λW=>by
  grind [World.freeze]
 obtain⟨s,t,u,x,y⟩:=f w.drew;have hk:∀c,c≠d.bZ->(w.drew.freeze a n).heap[c]?=w.heap[c]?:=y;refine⟨⟨λb o h=>(nomatch h),λb F o J m I h=>(nomatch h),λc q v h=>?_,λb o m h=>(nomatch h),λb c xs e m h=>(nomatch h),⟨⟨by rw[x];exact i.mb.1.1,D.gst _ _ (λc z=>hk c ?_) i.mb.1.2⟩,λb o m h=>(nomatch h)⟩⟩,λ_ _=>rfl,λ_ _ _ h=>h,λ_ _ h=>.inl h,by simp_all,λc z A=>hk c ?_,λb o m h=>(nomatch h),λb h=>absurd rfl h,s,t,u,Zah _⟩
 ·obtain⟨B,C,r,e2⟩:=i.gL c q v h;refine⟨B,C,?_,e2⟩;rw[<-r];exact gi (hk c λe=>by
   have:=i.sep b o d k hw l p q (g q);rw[<-e,h] at this;cases this)
 ·have:=i.mb.2 b o d k hw l p;omega
 ·exact λe=>A ⟨b,o,d,k,hw,l,p,e.symm⟩
theorem Qk6:Ok QgK:=by
 refine⟨⟨f297,_,by kernel_rfl,cI (by kernel_rfl)⟩,λy n M A w f a _ R h=>?_⟩;obtain⟨v,rfl,l⟩:=xl f;cases l with
 | @ptr _ _ m c k=>
  obtain⟨_,hs,ht,C,d,g,hl,j⟩:=o5 a (b:=0) (cs:=[.fC,.cW]) rfl c;obtain⟨o,p,rfl,h0,h1⟩:=DO hl;cases h0;cases h1;rw[hs];refine(bld.QsL _ _ d w g).mono λe q ⟨i,hw⟩=>?_
  subst i hw;have:=LA a (b:=0) rfl rfl (λ_=>trivial) c k ⟨m.bZ,0,none⟩ rfl 0 1;exact h M (.string ⟨⟨[]⟩⟩) _ (.str (Zaj _)) this
theorem Qk7:Ok QgL:=by
 refine⟨⟨f297,_,by kernel_rfl,cI (by kernel_rfl)⟩,λy n M A w q h _ R r=>?_⟩;obtain⟨v,rfl,E⟩:=xl q;cases E with
 | @ptr _ _ I B H=>
  obtain⟨_,hs,ht,C,p,m,hl,t⟩:=o5 h (b:=0) (cs:=[.ptr 0 0,.own 1 1 (ah y)]) rfl B;obtain⟨J,K,rfl,h0,h1⟩:=DO hl;obtain⟨a,d,c,f,i⟩:=h.obj 1 (.arr 0 y 5 false) rfl;have z:ah y=(y.length:Int):=aw y;cases h1 with
  | own g1 g2 g3 g4 g5 g6 g7=>
   rw[d] at g1;cases g1;obtain⟨o,g,k1,k2,k3,k4,k5⟩:=i g3;replace c:a.len=y.length:=c;replace f:a.jh=1:=f;rw[c] at m g5 g6;rw[hs];have k:=bb gb 0 y;rw[show D.size 0=1 from rfl,Zb8] at k;have G:a.sh+y.length<=a.qu:=by grind
   refine(bld.QsK _ _ _ _ _ y o p g w n m k1 ω g6 g5 (λj x F=>?_)).mono λe N ⟨s,hw⟩=>?_
   ·obtain⟨u,rfl⟩:=Zam.1 F;have e:=fP gb 0 y j 0 u (by decide);obtain⟨L,l,a2⟩:=k4 (j*D.size 0+0) _ e;obtain rfl:=fF a2;have:(⟨a.bZ,a.sh,none⟩:Addr).add j=⟨a.bZ,a.sh+j,none⟩:=by
     grind [Addr.add]
    rw[this,Lib.cell_of_heap k1];have e2:a.sh+(j*D.size 0+0)=a.sh+j:=by show a.sh+(j*1+0)=_;omega
    rw[e2] at l;exact l
   ·subst s hw;have:=LA h (b:=1) rfl rfl (λ_=>trivial) d g3 ⟨a.bZ,a.sh,none⟩ rfl y.length 2;exact r M (.string ⟨⟨y⟩⟩) _ (.str g5) this
  | l5 g1 g2 g3 g4 g5=>exact absurd (Zap ω) n
theorem Qk8:Ok XU:=okZ (V:=Qb3) [XT] f296 (λ_=>⟨[],[2],[],[],1,[]⟩) Qk5 λy a=>by
 unfold Qb3;simp only[fB,Zal,aw];exact⟨br.2 (by grind),rfl,rfl,trivial⟩
theorem Qk9:Ok XV:=okZ (V:=Qb4) [QgJ] f296 (λ_=>dr ()) Qk4 λy a=>by
 unfold Qb4;simp only[bh,aw,a8];obtain⟨h1,b⟩:y.1.length<=1000000/\F_ y.2:=a;refine⟨br.2 ?_,rfl,rfl⟩;grind
def Qla:Ok XW:=okZ (V:=Qk3) [] f295 (λ_=>dr ()) trivial λy a=>⟨rfl,trivial⟩
theorem Qlb:Ok XX:=okZ (V:=Qb5) [] f295 (λ_=>dr ()) trivial λy a=>by
 grind [Qb5]
theorem IU {i:Nat} (h:¬(i<G.length/\48<=aK G i/\aK G i<=57)):cr G x i b=(i,b):=by
 rcases x with _ | x
 ·rfl
 ·grind [cr]
theorem V5 (h:x<G.length/\48<=aK G x/\aK G x<=57):cr G (G.length-x) x b=cr G (G.length-(x+1)) (x+1) (if 48<aK G x\/b≠[] then b++[UInt8.ofNat (aK G x).toNat] else b):=by
 obtain⟨m,a⟩:∃m,G.length-x=m+1:=⟨G.length-x-1,ω⟩;grind [cr]
def np {y:PS} (a:bw y) (l:tg y x b) (h:¬(x<y.1.length/\48<=aK y.1 x/\aK y.1 x<=57)):
  b=gO y.1 (nn y.2)/\az y.2.i x=gF y.1 (nn y.2)/\(x:Int)=((cr y.1 (y.1.length-y.2.i.toNat) y.2.i.toNat []).1:Nat)/\y.2.aq=(y.2.aq.toNat:Nat)/\y.2.ab=(y.2.ab.toNat:Nat):=by
 have e:=l.2.2.2;rw[IU h] at e;obtain⟨c,a2,a3,a4,_⟩:=a;refine⟨?_,?_,?_,ω,ω⟩
 ·show b=(cr y.1 (y.1.length-(nn y.2).i) (nn y.2).i []).2
  rw[<-e]
 ·show _=decide ((nn y.2).i<(cr y.1 (y.1.length-(nn y.2).i) (nn y.2).i []).1)
  rw[<-e];apply ZaG.2;rw[eV,ZbP];show y.2.i<x↔y.2.i.toNat<x
  omega
 ·show(x:Int)=((cr y.1 (y.1.length-(nn y.2).i) (nn y.2).i []).1:Nat)
  rw[<-e]
theorem V6 {y:PS} (a:bw y) (l:tg y x b) (h:x<y.1.length/\48<=aK y.1 x/\aK y.1 x<=57):
  aD .i64 (x:Int) 1=((x+1:Nat):Int)/\vT .u8 (aK y.1 x)=aK y.1 x/\F_ (aK y.1 x)/\tg y (x+1) (if 48<aK y.1 x\/b≠[] then b++[UInt8.ofNat (aK y.1 x).toNat] else b)/\y.1.length-(x+1)<y.1.length-x:=by
 obtain⟨q1,e,f,c⟩:=l;have d:=a.1;refine⟨bG ω ω,dE (cH.2 ⟨by show(0:Int)<=_;omega,by show _<=(255:Int);omega⟩),⟨ω,ω⟩,⟨ω,ω,?_,by rw[<-c,V5 h]⟩,ω⟩;grind
theorem QsM:∀y,xu.pre y->V4 y:=λy j=>by
 unfold V4;simp only[bN,bh,aw,di,Zad,ZaX,ZaY,ZaZ,Zdt,Zdv,Zd2];obtain⟨b,-⟩:=j;replace b:bw y:=b;obtain⟨k,a2,-⟩:=id b;simp only[show ∀x:Nat,(y.1.getD x (0,0)).1=aK y.1 x from λ_=>rfl];refine⟨⟨(nn y.2).i,by show y.2.i=(y.2.i.toNat:Int);omega,Zah _,by show y.2.i.toNat<=_;omega,Zaj _,rfl⟩,λx a=>?_,λx a=>?_⟩
 ·refine⟨λh1=>⟨ω,h1,λd=>⟨ω,h1,λe=>⟨ω,h1,?_⟩,λe=>np b a λh=>?_⟩,λd=>np b a λh=>?_⟩,λh1=>np b a λh=>?_⟩
  ·obtain⟨g1,g2,g3,g4,g5⟩:=V6 b a ⟨ω,d,e⟩;rw[g2];refine⟨λf=>⟨ω,h1,g3,⟨(x+1,[UInt8.ofNat (aK y.1 x).toNat]),rfl,rfl,g1,⟨?_,by simp⟩,g5⟩⟩,λf=>⟨λh=>absurd h (by decide),λ_=>⟨x+1,g1,?_,g5⟩⟩⟩
   ·grind
   ·grind
  all_goals omega
 ·obtain⟨i,l⟩:=x;obtain⟨a,hl⟩:=a;refine⟨λh1=>⟨ω,h1,λd=>⟨ω,h1,λe=>⟨ω,h1,?_⟩,λe=>⟨hl,np b a λh=>?_⟩⟩,λd=>⟨hl,np b a λh=>?_⟩⟩,λh1=>⟨hl,np b a λh=>?_⟩⟩
  ·obtain⟨g1,g2,g3,g4,g5⟩:=V6 b a ⟨ω,d,e⟩;simp only at g2 hl ⊢;rw[g2];rw[Zac (.inr hl)] at g4;have o:l.length<=1000000:=by have m:l.length<=i:=a.2.2.1;have n:i<=y.1.length:=a.2.1;omega
   have g:∃c:Nat×By,((l++[UInt8.ofNat (aK y.1 i).toNat]).length:Int)=(c.2.length:Int)/\l++[UInt8.ofNat (aK y.1 i).toNat]=c.2/\aD .i64 (i:Int) 1=(c.1:Int)/\(tg y c.1 c.2/\c.2≠[])/\y.1.length-c.1<y.1.length-i:=
    ⟨(i+1,_),rfl,rfl,g1,⟨g4,by simp⟩,g5⟩
   grind [List.length_pos_iff]
  all_goals omega
def Qlc:Ok xu:=okZ [XW,XX,XU,XV,QgK,QgL] f269 Qnx ⟨Qla,Qlb,Qk8,Qk9,Qk6,Qk7⟩ QsM
end
end sx
namespace join
open Go Go.ChangeShapes Go.WideShapes Go.ChangeAt Go.RowKit
def p1 (P:Program) (_f:FuncId) (a:Func) (s:ChangeSpec) (c:OpenClaim):Bool:=(c.wf (OpenSpec.ofChange s)&&laidOutB P&&mapsRowed P)
def p2 (P:Program) (_f:FuncId) (fn:Func) (s:ChangeSpec) (c:OpenClaim):Bool:=(fn.params.all (P.readableRec ·)&&namedTie P c.named s.vars&&(c.stops==[])&&(P.stops==[])&&(c.knobs==[])&&(P.stopKnobs==[]))
def p3 (P:Program) (f:FuncId) (a:Func) (b:ChangeSpec) (c:OpenClaim):Bool:=(c.inPlace==P.inPlace f)
def p4 (P:Program) (f:FuncId) (a:Func) (b:ChangeSpec) (c:OpenClaim):Bool:=(c.unfollowed==P.unfollowed f)
def p5 (P:Program) (f:FuncId) (a:Func) (b:ChangeSpec) (c:OpenClaim):Bool:=(c.recurses==P.recurses f)
def p6 (P:Program) (f:FuncId) (a:Func) (b:ChangeSpec) (c:OpenClaim):Bool:=(c.named==P.varsNamed f)
def p7 (P:Program) (_f:FuncId) (fn:Func) (s:ChangeSpec) (c:OpenClaim):Bool:=((c.maps==(fn.params.toList++s.plain.varTypes P).any (P.mapsRec ·))&&(c.ifaces==(fn.params.toList++s.plain.varTypes P).any (P.ifacesRec ·))&&(c.mapsOut==P.mapsAmong fn.resultTypes.toList)&&(c.loops==(fn.params.toList++s.plain.varTypes P).any (P.loopsFrom ·))&&(c.wideKeys==(fn.params.toList++s.plain.varTypes P++fn.resultTypes.toList).any (P.wideKeysFrom ·))&&s.vars.all (P.varReadable ·)&&fn.resultTypes.all (λt=>P.readableRec t&&decide (t<P.types.size))&&(c.ifacesOut==fn.resultTypes.toList.any (P.ifacesRec ·))&&(c.loopsOut==fn.resultTypes.toList.any (P.loopsFrom ·)))
def p8 (P:Program) (_f:FuncId) (a:Func) (b:ChangeSpec) (c:OpenClaim):Bool:=(c.plainKeys==P.plainKeys)
def p9 (P:Program) (_f:FuncId) (a:Func) (b:ChangeSpec) (c:OpenClaim):Bool:=(c.shortTexts.isNone&&P.stopsHeard&&P.mayEnter)
def p10 (P:Program) (_f:FuncId) (a:Func) (b:ChangeSpec) (c:OpenClaim):Bool:=(c.lifted==P.liftsFinal)
def p11 (P:Program) (_f:FuncId) (fn:Func) (a:ChangeSpec) (c:OpenClaim):Bool:=((P.make==some c.make)&&(c.kinds==(if c.domain.isEmpty then[] else fn.params.toList.map λt=>match P.underlying t with | some (.int k)=>some k | _=>none))&&(c.pinned==c.pinnedBy))
def p12 (P:Program) (_f:FuncId) (fn:Func) (s:ChangeSpec) (c:OpenClaim):Bool:=((c.veiled==(fn.params.toList++s.plain.varTypes P++fn.resultTypes.toList).any (P.veiledRec ·))&&c.veiledFits P fn.params.toList (fn.params.toList++s.plain.varTypes P++fn.resultTypes.toList))
def facts {P:Program} {f:FuncId} {fn:Func} {s:ChangeSpec} {c:OpenClaim} (h1:p1 P f fn s c) (e:p2 P f fn s c) (i:p3 P f fn s c) (j:p4 P f fn s c) (k:p5 P f fn s c) (l:p6 P f fn s c) (b:p7 P f fn s c) (m:p8 P f fn s c) (h:p9 P f fn s c) (g:p10 P f fn s c) (a:p11 P f fn s c) (d:p12 P f fn s c):joinedFacts P f fn s c:=by
 unfold p1 at h1;unfold p2 at e;unfold p3 at i;unfold p4 at j;unfold p5 at k;unfold p6 at l;unfold p7 at b;unfold p8 at m;unfold p9 at h;unfold p10 at g;unfold p11 at a;unfold p12 at d;unfold joinedFacts;simp only[ZaW,Zdc] at h1 e b h a d ⊢;exact⟨h1.1,h1.2.1,h1.2.2,e.1,e.2.1,e.2.2.1,e.2.2.2.1,e.2.2.2.2.1,e.2.2.2.2.2,i,j,k,l,b.1,b.2.1,b.2.2.1,b.2.2.2.1,b.2.2.2.2.1,b.2.2.2.2.2.1,b.2.2.2.2.2.2.1,b.2.2.2.2.2.2.2.1,b.2.2.2.2.2.2.2.2,m,h.1,h.2.1,h.2.2,g,a.1,a.2.1,a.2.2,d.1,d.2⟩
end join
end Go.Proofs.YtiiiphndmbabcaaGreat
