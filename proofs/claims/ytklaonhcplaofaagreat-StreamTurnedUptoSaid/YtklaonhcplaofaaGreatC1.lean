/- StreamTurned: a part of the proof. -/
import Derived.Test.YtklaonhcplaofaaGreatC0
import Derived.Laws.Tables
import Derived.Deep.AppendSrc
import Derived.Laws.AppendOwn
import Derived.Lib.ConvBytes
set_option linter.all false
namespace Go.Proofs.YtklaonhcplaofaaGreat
namespace sx
open Go Go.RowKit
structure FR {D:Data} (M:Pm D) (φ:T (AV D.E)) (a:Act) (N:Nat):Prop where
 at_:∀t v,φ.get t=some v->VR M v (a.tmps.getD t Go.undef)
 size:a.tmps.size=N
 defers:a.defers=[]
theorem not_iff {b:Bool}:Bool.not b↔b=false:=by grind
theorem h_ {a b:Bool}:Bool.and a b↔a/\b:=by grind
section
variable {P:Program} {D:Data} {M M':Pm D} {φ:T (AV D.E)} {a:Act} {N:Nat} {w:World} {H:Hp D} {s s':St D.E}
variable {b o j:Nat} {e:TypeId} {d:List (AV D.E)} {v y:AV D.E} {z:Value} {Z:MI} {X:TypeDesc} {W:Array Value} {l:AO D.E}
variable {V:List (D.E b)}
def FR.mono (h:FR M φ a N) (b:Le M M'):FR M' φ a N:=⟨λt v e=>(h.at_ t v e).mono b,h.size,h.defers⟩
theorem Ja (h:Oo z=some v):VR M v z:=by
 unfold Oo at h;split at h
 ·cases h;exact .lit _
 ·rename_i k n
  obtain⟨h1,a⟩:=kV.1 h;cases a;rw[h_,not_iff,not_iff,Fv,Fv] at h1;exact .num (cE.2 ⟨by grind,by grind⟩)
 ·rename_i s
  obtain⟨h1,a⟩:=kV.1 h;cases a;have b:=cm.1 h1;rw[gL] at b;have:VR M (.str s.data.toList:AV D.E) (.string ⟨⟨s.data.toList⟩⟩):=.str b;exact this
 ·cases h;exact .nilFunc
 ·cases h;exact .nilIface
 ·split at h
  ·cases h;exact .gy
  ·cases h
 ·split at h
  ·cases h;exact .pP
  ·cases h
 ·split at h
  ·obtain⟨h1,a⟩:=kV.1 h;cases a;rw[h_,aM,aM] at h1;obtain⟨rfl,rfl⟩:=h1;exact .dd
  ·cases h
 ·split at h
  ·rename_i v y _ g
   obtain⟨h1,a⟩:=kV.1 h;cases a;rw[h_,aM,aM,gL,gL] at h1;exact .func _ h1.1.symm (λi z c e=>by simp at e) h1.2.symm (λi z c e=>by simp at e)
  ·cases h
 ·cases h
theorem A4:∀{l:List Value} {r:List (AV D.E)},Wo l=some r->LR M r l
 | [],r,h=>by cases(show some []=some r from h);exact .nil
 | v::l,r,h=>by
  obtain⟨x,d,h1⟩:=aE.1 (show oB (Oo v) (λa=>oB (Wo l) λr=>some (a::r))=some r from h);obtain⟨e,c,b⟩:=aE.1 h1;cases b;exact .cons (Ja d) (A4 c)
theorem O3 (h:ofV z=some v):VR M v z:=by
 unfold ofV at h;split at h
 ·obtain⟨l,hl,h1⟩:=aE.1 h;cases h1;have:=A4 (M:=M) hl;exact .agg this.1 this.2
 ·obtain⟨l,hl,h1⟩:=aE.1 h;cases h1;have:=A4 (M:=M) hl;exact .tuple this.1 this.2
 ·exact Ja h
theorem dx {x:Operand} (h:(ev P D φ x).H v) (c:FR M φ a N):VR M v (a.eval x):=by
 cases x with
 | tmp t=>exact c.at_ t v (bz.1 h)
 | const u=>exact O3 (bz.1 h)
 | global g=>
  obtain⟨_,b⟩:=bw.1 (show(bB (Nat.ble (g+1) P.globals.size) (.ret (.j7 g 0))).H v from h);cases au.1 b;exact .j7 g 0
 | func f=>
  cases au.1 (show(C.ret (.func (.func f) [] [])).H v from h);exact .func _ rfl (λi v d e=>by simp at e) rfl (λi v d e=>by simp at e)
theorem O4:∀{xs:List Operand} {b:List (AV D.E)},(Ot P D φ xs).H b->FR M φ a N->LR M b (xs.map a.eval)
 | [],b,h,_=>by cases au.1 (show(C.ret []).H b from h);exact .nil
 | x::xs,b,h,hf=>by
  obtain⟨v,e,h1⟩:=ai.1 (show(az (ev P D φ x) λv=>az (Ot P D φ xs) λb=>.ret (v::b)).H b from h);obtain⟨us,c,d⟩:=ai.1 h1;cases au.1 d;exact .cons (dx e hf) (O4 c hf)
theorem pe (h:ub P e=some b):∃i,P.info? e=some i/\i.size=b:=by
 unfold ub at h;cases hi:P.info? e with
 | none=>rw[hi] at h;cases h
 | some i=>rw[hi] at h;cases h;exact⟨i,rfl,rfl⟩
theorem sE:(sz P e).H b↔ub P e=some b:=bz
def gB:(ud P e).H X↔P.underlying e=some X:=bz
theorem yZ (h:Wp P e=some b):∃i,P.info? e=some i/\i.bytes=b:=by
 unfold Wp at h;cases hi:P.info? e with
 | none=>rw[hi] at h;cases h
 | some i=>rw[hi] at h;cases h;exact⟨i,rfl,rfl⟩
theorem lT (h:(zeroOf P D e).H v):∃i a,P.info? e=some i/\i.zero=some a/\∀M:Pm D,VR M v a:=by
 obtain⟨i,hi,h1⟩:=ai.1 h;grind [ai,bz,O3]
def cI (h:ub P e=some b) (w:World):(sizeOf e).run P w=.ok b w:=by
 obtain⟨i,hi,hk⟩:=pe h;simp[sizeOf,typeInfo,hi,hk]
def rf {i:TypeInfo} (hi:P.info? e=some i) (hz:i.zero=some z) (w:World):(zeroValue e).run P w=.ok z w:=by
 simp[zeroValue,typeInfo,hi,hz]
def uM (h:P.underlying e=some X) (w:World):(isAgg e).run P w=.ok (QbW X) w:=by
 cases X<;>simp[isAgg,Zza h,QbW]
theorem O5 (b o n:Nat):Addr.add ⟨b,o,none⟩ n=⟨b,o+n,none⟩:=Addr.add_lit b o n
theorem jX (h:(jD P D e d b).H v) (hl:LR M d W.toList):∃o,(∀w,(part e W b).run P w=.ok o w)/\VR M v o:=by
 obtain⟨cs,g,h1⟩:=ai.1 h;rw[gB] at g;rcases gA.1 h1 with⟨f,c⟩ | ⟨f,c⟩
 ·obtain⟨k,hk,a⟩:=ai.1 c;obtain⟨l,i,m⟩:=ai.1 a;cases au.1 m;rw[sE] at hk;obtain⟨p,rfl⟩:=iL (bz.1 i);rw[lQ] at*
  refine⟨.agg (W.extract b (b+k)),λw=>by simp[part,uM g,f,cI hk],?_⟩;have t:(W.extract b (b+k)).toList=(W.toList.drop b).take k:=by
   simp_all
  exact .agg (by rw[t];exact((hl.drop b).take k).1) (by rw[t];exact((hl.drop b).take k).2)
 ·have a:=bz.1 c;rw[eI] at a;obtain⟨o,j,n⟩:=hl.get a;rw[ZaL] at j;exact⟨o,λw=>by simp[part,uM g,f,j],n⟩
def pf (h:(o9 s b).H d):∃e ro,s.h.get b=some (.cells d e ro):=by
 obtain⟨o,a,h1⟩:=ai.1 h;cases o<;>first | (cases au.1 h1;exact⟨_,_,bz.1 a⟩) | exact h1.elim
theorem A5 (h:(QbU s b).H (d,e)):s.h.get b=some (.cells d e false):=by
 obtain⟨o,cs,h1⟩:=ai.1 h;cases o with
 | cells a c ro=>
  cases ro
  ·grind [au,bz]
  ·exact h1.elim
 | arr=>exact h1.elim
 | tok=>exact h1.elim
theorem i_ {x:Ar D.E} (h:(j8 s b).H x):s.h.get b=some (.arr x.c x.xs x.e x.ro):=by
 obtain⟨o,a,h1⟩:=ai.1 h;cases o with
 | arr c xs e ro=>cases au.1 (show(C.ret (⟨c,xs,e,ro⟩:Ar D.E)).H x from h1);exact bz.1 a
 | cells=>exact h1.elim
 | tok=>exact h1.elim
theorem Wy (h:(Ϭ s b).H (o,e)):s.h.get b=some (.tok o e):=by
 obtain⟨c,f,h1⟩:=ai.1 h;cases c with
 | tok a d=>cases au.1 (show(C.ret (a,d)).H (o,e) from h1);exact bz.1 f
 | cells=>exact h1.elim
 | arr=>exact h1.elim
def ka {o:Option (AO D.E)} (h:(s.set b o).H s'):s'.h.get=iI s.h.get b o/\s'.nx=s.nx:=by
 obtain⟨t,ht,h1⟩:=ai.1 h;cases au.1 h1;exact⟨funext λc=>T.dO _ _ _ _ (bz.1 ht) c,rfl⟩
theorem qb (h:(s.new l).H (b,s')):b=s.nx/\s'.nx=s.nx+1/\s'.h.get=iI s.h.get s.nx (some l):=by
 unfold St.new at h;cases a:s.nx with
 | zero=>
  rw[a] at h;obtain⟨t,ht,h1⟩:=ai.1 (show(az (cN (s.h.put 0 (some l))) _).H (b,s') from h);cases au.1 h1;exact⟨rfl,rfl,funext λc=>T.dO _ _ _ _ (bz.1 ht) c⟩
 | succ n=>
  rw[a] at h;obtain⟨t,ht,h1⟩:=ai.1 (show(az (cN (s.h.put (n+1) (some l))) _).H (b,s') from h);cases au.1 h1;exact⟨rfl,rfl,funext λc=>T.dO _ _ _ _ (bz.1 ht) c⟩
def Rd (M:Pm D) (w:World) (b o:Nat) (cs:List (AV D.E)):Prop:=∀(i:Nat) (v:AV D.E),cs[i]?=some v->∃a,w.cell? ⟨b,o+i,none⟩=some a/\VR M v a
theorem Rd.list {b o:Nat} {cs:List (AV D.E)} (h:Rd M w b o cs):∃l,LR M cs l/\∀j v,l[j]?=some v->w.cell? ⟨b,o+j,none⟩=some v:=by
 refine⟨(List.range cs.length).map λi=>(w.cell? ⟨b,o+i,none⟩).getD default,⟨by simp,λi v m e g=>?_⟩,λj v c=>?_⟩
 ·have hi:=(Zam.1 e).1;obtain⟨u,hu,f⟩:=h i v e;grind
 ·rw[Zbk] at c;cases d:(List.range cs.length)[j]? with
  | none=>rw[d] at c;cases c
  | some k=>
   rw[d] at c;have a:j<cs.length:=by grind
   rw[List.getElem?_range a] at d;cases d;obtain⟨u,hu,f⟩:=h j _ (Zaf a);grind
theorem Rd.drop (h:Rd M w b o d) (n:Nat):Rd M w b (o+n) (d.drop n):=λi v e=>by
 rw[ZbX] at e;obtain⟨c,h1,a⟩:=h _ v e;grind
def Rd.take (h:Rd M w b o d) (n:Nat):Rd M w b o (d.take n):=λi v e=>by
 rw[Za7] at e;split at e
 ·exact h i v e
 ·cases e
theorem Rd.heap {a:World} (h:Rd M w b o d) (hw:a.heap=w.heap):Rd M a b o d:=λi v e=>by
 obtain⟨cs,h1,c⟩:=h i v e;grind [World.cell?]
def Rd.mono (c:Le M M') (h:Rd M w b o d):Rd M' w b o d:=λi v e=>let ⟨cs,h1,a⟩:=h i v e;⟨cs,h1,a.mono c⟩
def Rd.runs (h:Rd M w b o d):∃l,LR M d l/\l.length=d.length/\∀k,k<=d.length->∀a:World,a.heap=w.heap->(loadCells ⟨b,o,none⟩ k).run P a=.ok (l.take k).toArray a:=by
 obtain⟨l,hl,cs⟩:=h.list;refine⟨l,hl,hl.1.symm,λk hk a hw=>?_⟩;have:=run_loadCells_list (P:=P) (w:=a) ⟨b,o,none⟩ (l.take k) (λj v c=>by
  rw[Addr.add_lit];rw[Za7] at c;split at c
  ·have:=cs j v c;simp only[World.cell?] at this ⊢;rw[hw];exact this
  ·cases c)
 rw[Zar,<-hl.1,Zbj hk] at this;exact this
theorem Rd.run (h:Rd M w b o d):∃l,LR M d l/\l.length=d.length/\∀a:World,a.heap=w.heap->(loadCells ⟨b,o,none⟩ d.length).run P a=.ok l.toArray a:=by
 obtain⟨l,h1,c,cs⟩:=h.runs (P:=P);grind
theorem vN (h:(jD P D e d j).H v) (q:Rd M w b o d):
  ∃c,(Instr.loadAt e (.pointer (some ⟨b,o+j,none⟩))).run P w=.ok c w/\(loadVar e ⟨b,o+j,none⟩).run P w=.ok c w/\VR M v c:=by
 obtain⟨cs,m,s⟩:=ai.1 h;rw[gB] at m;have r:∀x:Value,(loadVar e ⟨b,o+j,none⟩).run P w=.ok x w->(Instr.loadAt e (.pointer (some ⟨b,o+j,none⟩))).run P w=.ok x w:=λx r=>by
  assumption
 rcases gA.1 s with⟨i,g⟩ | ⟨i,g⟩
 ·obtain⟨k,hk,f⟩:=ai.1 g;obtain⟨l,hl,u⟩:=ai.1 f;cases au.1 u;rw[sE] at hk;obtain⟨B,rfl⟩:=iL (bz.1 hl);rw[lQ] at*
  obtain⟨A,p,hlen,a⟩:=((q.drop j).take k).run (P:=P);have n:((d.drop j).take k).length=k:=by grind
  rw[n] at a;have t:(loadVar e ⟨b,o+j,none⟩).run P w=.ok (.agg A.toArray) w:=by
   simp[loadVar,uM m,i,cI hk,a w rfl]
  exact⟨_,r _ t,t,.CC p⟩
 ·have f:=bz.1 g;rw[eI] at f;obtain⟨c,y,z⟩:=q j v f;have t:(loadVar e ⟨b,o+j,none⟩).run P w=.ok c w:=by
   simp[loadVar,uM m,i,load,Sem.run,y]
  grind
theorem N7.rd {ro:Bool} (h:N7 M Z w d e ro):Rd M w Z.bV Z.sh d:=λi v hi=>by
 obtain⟨C,b,h1,c,cs,f,_⟩:=h;grind [World.cell?]
theorem a_ (a:aY D) (c:Nat):∀xs:List (D.E c),(aW c xs).length=xs.length*D.size c
 | []=>by simp[aW]
 | x::xs=>by
  have:=a_ a c xs;simp only[aW,Zbt,Zab,Zae] at this ⊢;rw[this,a.len,ZaV];omega
theorem fw (a:aY D) (c:Nat):∀(xs:List (D.E c)) (i j:Nat) (hi:i<xs.length),j<D.size c->(aW c xs)[i*D.size c+j]?=(D.bd c xs[i])[j]?
 | [],i,j,hi,_=>by grind
 | x::xs,0,j,_,hj=>by
  simp only[aW,Zbt,ZbS,Za6,List.getElem_cons_zero];rw[Zat (by rw[a.len];exact hj)]
 | x::xs,i+1,j,hi,hj=>by
  have:=fw a c xs i j (by grind) hj;simp only[aW,Zbt] at this ⊢;rw[Zaz (by rw[a.len,ZaV];omega),a.len,show(i+1)*D.size c+j-D.size c=i*D.size c+j by grind,this];simp
theorem jY (a:aY D) (h:Rd M w o j (aW b V)) {i:Nat} (hi:i<V.length):Rd M w o (j+i*D.size b) (D.bd b V[i]):=λc v e=>by
 have f:c<D.size b:=by rw[<-a.len b V[i]];exact(Zam.1 e).1
 obtain⟨g,h1,d⟩:=h (i*D.size b+c) v (by grind [fw]);grind
theorem A6 {α:Type} {d:α} {xs:List α} (h:b<xs.length):gt d xs b=xs[b]:=by
 unfold gt;grind
def Qb9 (a:dQ M H w) {x:D.E b} (h:∀(i:Nat) (v:AV D.E),(D.bd b x)[i]?=some v->M.sg o (j+i)=some v):Rd M w o j (D.bd b x):=λi v e=>(a.gj _ _ _ (h i v e)).2
theorem ph (f:aY D) (g:dQ M H w) (h:ct M o j b V):Rd M w o j (aW b V):=λq v e=>by
 have c:=(Zam.1 e).1;rw[a_ f] at c;have a:0<D.size b:=by
  grind
 have hi:q / D.size b<V.length:=Zc6 (by grind);have i:q % D.size b<D.size b:=Zc4 _ a;have d:q / D.size b*D.size b+q % D.size b=q:=by grind [Nat.div_add_mod]
 rw[<-d,fw f b V _ _ hi i] at e;have:=h _ hi _ v e;obtain⟨_,l,h1,k⟩:=g.gj _ _ _ this;grind
theorem y0 (I:aY D) (h:(Cr P D s e v).H y) (L:VR M v z) (m:dQ M s.h.get w):
  ∃l p,z=.pointer (some p)/\(Instr.loadAt e z).run P w=.ok l w/\(loadVar e p).run P w=.ok l w/\VR M y l:=by
 cases L<;>simp only[Cr] at h<;>(try exact h.elim)
 case ptr b o O n u=>
  obtain⟨cs,K,h1⟩:=ai.1 h;obtain⟨t,ro,J⟩:=pf K;obtain⟨r,a,_,f⟩:=m.obj b _ J;rw[n] at a;cases a;obtain⟨l,C,F,G⟩:=vN h1 f.rd;grind
 case lL b k i j O n u hk hi=>
  obtain⟨x,N,h1⟩:=ai.1 h;obtain⟨r,a,Q,R,f⟩:=m.obj b _ (i_ N);rw[n] at a;cases a;have g:i<x.xs.length:=ω;have B:(jD P D e (D.bd x.c x.xs[i]) j).H y:=by
   rw[<-A6 (d:=D.Wn x.c) g];exact h1
  have A:=jY I (f u).rd g;grind [vN]
 case mP c x b o j q=>
  obtain⟨l,C,F,G⟩:=vN h (Qb9 m q);grind
def uN (s:St D.E) (M:Pm D) (w:World) (r:Result Value) (v:AV D.E) (b:St D.E):Prop:=
 ∃a v' c,r=.ok v' c/\VR a v v'/\cP s.h.get M w b.h.get a c s.nx b.nx
theorem uN.pure (a:dQ M s.h.get w) {r:Result Value} {v':Value} (b:r=.ok v' w) (c:VR M v v'):uN s M w r v s:=⟨M,v',w,b,c,.refl a _⟩
def QeR (s:St D.E) (M:Pm D) (w:World) (r:Result Unit) (a:St D.E):Prop:=
 ∃c b,r=.ok () b/\cP s.h.get M w a.h.get c b s.nx a.nx
theorem dm (b:Nat):∀(a:List Value) (o:Nat) (w:World) (c:Nat),c≠b->(w.setCells b o a).heap[c]?=w.heap[c]?
 | [],_,_,_,_=>rfl
 | v::r,o,w,c,h=>(dm b r (o+1) _ c h).trans (Below.heap_setCell w ⟨b,o,none⟩ v c h)
theorem dG (b:Nat):∀(a:List Value) (o:Nat) (w:World),(w.setCells b o a).heap.size=w.heap.size
 | [],_,_=>rfl
 | c::r,o,_w=>(dG b r (o+1) _).trans (World.size_setCell _ _ _)
theorem dH (b:Nat):∀(a:List Value) (o:Nat) (w:World),(w.setCells b o a).os=w.os/\(w.setCells b o a).tape=w.tape/\(w.setCells b o a).output=w.output
 | [],_,_=>⟨rfl,rfl,rfl⟩
 | c::r,o,_w=>dH b r (o+1) _
theorem ff (b:Nat) (e:TypeId) (c:Nat×Nat):∀(d:List Value) (o:Nat) (w:World) (C:Array Value),w.heap[b]?=some (.cells C e c)->o+d.length<=C.size->
  ∃a,(w.setCells b o d).heap[b]?=some (.cells a e c)/\a.size=C.size/\∀i,a[i]?=if o<=i/\i<o+d.length then d[i-o]? else C[i]?
 | [],o,w,C,h,_=>⟨C,h,rfl,λi=>by grind⟩
 | v::r,o,w,C,h,hl=>by
  have h1:(w.setCell ⟨b,o,none⟩ v).heap[b]?=some (.cells (C.setIfInBounds o v) e c):=by
   show(w.heap.modify b _)[b]?=_
   grind
  obtain⟨a,f,g,j⟩:=ff b e c r (o+1) _ _ h1 (by grind);refine⟨a,f,by grind,λi=>?_⟩;grind
theorem ri {o1:AO D.E} {g:Nat×Nat} {q:Nat} {vs':List Value} (r:dQ M H w) (s:H b=some l) (hw:l.wr) (m:M.pl b=some Z) (n:Z.real)
  (t:w.heap[Z.bV]?=some (.cells W e g)) (da:W.size=Z.p_) (J:q+vs'.length<=Z.p_) (x:g.1=g.2\/Z.p_<=g.1/\Z.iN=1) (d:∀j,l.sD Z j)
  (z:∀k:Array Value,(w.setCells Z.bV q vs').heap[Z.bV]?=some (.cells k e g)->k.size=W.size->(∀i,k[i]?=if q<=i/\i<q+vs'.length then vs'[i-q]? else W[i]?)->OR M o1 Z (w.setCells Z.bV q vs')) (lo:Nat) (p:∀c xs e,o1=.arr c xs e true->False:=by intro _ _ _ h;cases h):
  (∀j,j<vs'.length->(w.cell? ⟨Z.bV,q+j,none⟩).isSome)/\(∀j,j<vs'.length->w.frozen? ⟨Z.bV,q+j,none⟩=false)/\
  cP H M w (iI H b (some o1)) M (w.setCells Z.bV q vs') lo lo:=by
 refine⟨λj y=>?_,λj y=>?_,?_⟩
 ·grind [World.cell?]
 ·grind [World.frozen?]
 ·obtain⟨k,q1,A,B⟩:=ff Z.bV e g vs' q w W t ω;obtain⟨F,G,I⟩:=dH Z.bV vs' q w;have f:∀j,M.sg Z.bV j=none:=λj=>r.sep b l Z s hw m n j (d j)
  have:=cP.upon (M1:=M) (sg1:=M.sg) (b0:=b) (b1:=b) (o1:=o1) (A2:=Z) (lo:=lo) (hi:=lo) r s hw m n n rfl (by
    cases M with
    | mk pl sg=>
     congr 1;funext c;by_cases e:c=b
     ·rw[Zac e,e];exact m
     ·rw[Zaa e]) (.inl ⟨rfl,rfl,rfl⟩) (λ_ _ _ h=>h) (λ_ _ h=>.inl h) (dG _ _ _ _) (λc u=>dm _ _ _ _ c u) F G I (z k q1 A B)
   (λo v h=>by grind) (λ_ j _=>f j) (λc xs e h=>(p c xs e h).elim)
  have e2:(λc=>if c=b then some o1 else if c=b then none else H c)=iI H b (some o1):=by
   grind [iI]
  grind
theorem vO {vs':List Value} (h:(sy D s b o d).H s') (m:M.pl b=some Z) (j:dQ M s.h.get w) (n:LR M d vs') (h1:je one d):
  (storeCells ⟨Z.bV,Z.sh+o,none⟩ vs' 0).run P w=.ok () (w.setCells Z.bV (Z.sh+o) vs')/\cP s.h.get M w s'.h.get M (w.setCells Z.bV (Z.sh+o) vs') s.nx s'.nx:=by
 obtain⟨cs,e,hw,t⟩:=bk.1 h;obtain⟨f,x,u⟩:=ai.1 t;obtain⟨q1,F⟩:=ka u;have k:=A5 hw;obtain⟨y,c,g,C,r,k1,k2,k3,k4,k5⟩:=j.obj b _ k;rw[m] at c;cases c;obtain⟨p1,p2,p3⟩:=iM (bz.1 x);have hl:=n.1;obtain⟨c1,c2,c3⟩:=ri (o1:=.cells f e false) (q:=Z.sh+o) (vs':=vs') j k rfl m g.1 k1 k2 ω (k5 rfl) (λ_=>trivial) (λp z A B=>⟨⟨g.1,g.2.1,ω⟩,p,r,z,A.trans k2,ω,λi v hi=>by
  rw[p3 i] at hi;rw[B];by_cases l:o<=i/\i<o+d.length
  ·rw[Zac l] at hi;rw[Zac ω,show Z.sh+i-(Z.sh+o)=i-o by omega];exact n.get hi
  ·rw[Zaa l] at hi;rw[Zaa ω];exact k4 i v hi,k5⟩) s.nx
 grind [run_storeCells_cells,sC]
theorem lU {α:Type} (xs:List α) (i:Nat) (x:α):(cC xs i x).length=xs.length:=by simp[cC]
theorem Fz (l:aY D) {vs':List Value} (h:(Ou D s b o j d).H s') (Q:M.pl b=some Z) (R:Z.real) (hi:o<Z.len) (N:dQ M s.h.get w) (S:LR M d vs') (h1:je one d):
  (storeCells ⟨Z.bV,Z.sh+o*Z.iN+j,none⟩ vs' 0).run P w=.ok () (w.setCells Z.bV (Z.sh+o*Z.iN+j) vs')/\cP s.h.get M w s'.h.get M (w.setCells Z.bV (Z.sh+o*Z.iN+j) vs') s.nx s'.nx:=by
 obtain⟨⟨c,xs,e,ro⟩,Y,L⟩:=ai.1 h;have O:=i_ Y;cases ro with
 | true=>exact L.elim
 | false=>
  obtain⟨row,f,W⟩:=ai.1 (show(az (cN (Cp j d (D.bd c (gt (D.Wn c) xs o)))) _).H s' from L);obtain⟨x,m,X⟩:=ai.1 W;obtain⟨q1,q2⟩:=ka X;obtain⟨a,i,g1,g2,A⟩:=N.obj b _ O;rw[Q] at i;cases i;obtain⟨C,V,k1,k2,k3,k4,k5⟩:=A R;simp only at g1 g2 k3 k4 k5 q1;have n:o<xs.length:=ω;rw[A6 n] at f;obtain⟨p1,p2,p3⟩:=iM (bz.1 f);rw[l.len] at p1 p2;obtain⟨d1,d2⟩:=l.dec c row x (bz.1 m);have hl:=S.1;rw[a_ l] at k3;have hmul:(o+1)*D.size c<=xs.length*D.size c:=Zbc _ n;rw[ZaV] at hmul;obtain⟨c1,c2,c3⟩:=ri (o1:=.arr c (cC xs o x) e false) (q:=Z.sh+o*Z.iN+j) (vs':=vs') N O rfl Q R k1 k2 (by grind) (k5 trivial) (λ_=>trivial) (λT w1 w2 w3=>⟨by rw[lU];exact g1,g2,λ_=>⟨T,V,w1,w2.trans k2,by rw[a_ l,lU];exact k3,λq v r=>by
   have y:=(Zam.1 r).1;rw[a_ l,lU] at y;have z:0<D.size c:=by
    grind
   have F:q / D.size c<xs.length:=Zc6 (by grind);have G:q % D.size c<D.size c:=Zc4 _ z;have t:q / D.size c*D.size c+q % D.size c=q:=by grind [Nat.div_add_mod]
   rw[<-t,fw l c _ _ _ (by rw[lU];exact F) G] at r;have hold:∀u,(D.bd c xs[q / D.size c])[q % D.size c]?=some u->∃K,C[Z.sh+q]?=some K/\VR M u K:=λu hu=>by
    have:=k4 q u (by grind [fw]);exact this
   rw[w3,g2];by_cases g:q / D.size c=o
   ·have k:(cC xs o x)[q / D.size c]'(by grind)=x:=by simp[cC,g]
    rw[k] at r;have J:q % D.size c<row.length:=ω;have I:=Zaf J;rw[g] at t;by_cases B:j<=q % D.size c/\q % D.size c<j+d.length
    ·rw[Zac ω,show Z.sh+q-(Z.sh+o*D.size c+j)=q % D.size c-j by omega];have p:=p3 (q % D.size c);rw[Zac B,I] at p;obtain⟨K,e1,e2⟩:=S.get p.symm;grind
    ·grind
   ·have k:(cC xs o x)[q / D.size c]'(by grind)=xs[q / D.size c]:=by
     grind [cC]
    rw[k] at r;rw[Zaa (by
     rintro⟨a1,a2⟩;apply g;have b1:o*D.size c<=q:=ω;have U:q<(o+1)*D.size c:=by grind
     have b3:=(Nat.le_div_iff_mul_le z).2 b1;have b4:=(Nat.div_lt_iff_lt_mul z).2 U;omega)]
    exact hold _ r,λ_=>k5 trivial⟩⟩) s.nx
  grind [run_storeCells_cells,sC]
theorem CG (x:aY D) {l:Value} (h:(IE P D s e v y).H s') (q:VR M v z) (A:VR M y l) (m:dQ M s.h.get w):QeR s M w ((Instr.storeAt e z l).run P w) s':=by
 obtain⟨k,hk,r⟩:=ai.1 h;rw[sE] at hk;obtain⟨hl,u⟩:=bw.1 r;obtain⟨n,c⟩:=bw.1 u;have a:=eO A;have hlen:l.cells.size=k:=by
  have:=a.1;grind [aM,gL]
 cases q<;>simp only at c<;>(try exact c.elim)
 case ptr b o B g p=>
  obtain⟨d,t⟩:=vO (P:=P) c g m a n;refine⟨M,_,?_,t⟩;simp only[Instr.storeAt,Instr.sureAddr,Zzd,Zzc,Zzb,storeVar,cI hk,hlen,ne_eq,Zce,Za0];exact d
 case lL b k2 i j B g p f hi=>
  obtain⟨d,t⟩:=Fz (P:=P) x c g p hi m a n;rw[f] at d t;refine⟨M,_,?_,t⟩;simp only[Instr.storeAt,Instr.sureAddr,Zzd,Zzc,Zzb,storeVar,cI hk,hlen,ne_eq,Zce,Za0];exact d
end
section
variable {P:Program} {D:Data} {cd:TypeId->Option Nat} {M M':Pm D} {φ:T (AV D.E)} {a:Act} {N:Nat} {w w':World} {H:Hp D} {s s':St D.E}
variable {c q b:Nat} {Z:Nat->Nat->Option (AV D.E)} {v:AV D.E} {Y:List (AV D.E)} {E:Nat->Type}
variable {X:List (D.E c)} {W:List (D.E b)}
def cY (sg:Nat->Nat->Option (AV D.E)) (B q:Nat) (cs:List (AV D.E)):Nat->Nat->Option (AV D.E):=λb o=>if b=B/\q<=o/\o<q+cs.length then cs[o-q]? else sg b o
theorem kb (a:∀o,q<=o->o<q+Y.length->Z c o=none) (b o:Nat) (v:AV D.E) (h:Z b o=some v):cY Z c q Y b o=some v:=by
 grind [cY]
theorem lV {o:Nat} (h:cY Z c q Y b o≠none):Z b o≠none\/b=c:=by
 grind [cY]
def dR (a:aY D) (h:v∈aW c X):one v/\lS v:=by
 have⟨x,_,b⟩:=ZbG.1 h;exact a.one c x v b
theorem CH (a:aY D):je one (aW c X):=dP.2 λ_ h=>(dR a h).1
theorem fx (c:Nat) (xs a:List (D.E c)):aW c (xs++a)=aW c xs++aW c a:=by simp[aW]
theorem ct.app (f:aY D) {d:List (D.E b)} (h1:ct M c q b W) (g:ct M c (q+W.length*D.size b) b d):ct M c q b (W++d):=by
 intro i hi j v e;by_cases a:i<W.length
 ·rw[List.getElem_append_left a] at e;exact h1 i a j v e
 ·rw[List.getElem_append_right ω] at e;have:=g (i-W.length) (by grind) j v e;rw[<-this];congr 1;have:(i-W.length)*D.size b+W.length*D.size b=i*D.size b:=by rw[<-ZbL];congr 1;omega
  omega
theorem ct.add (B:aY D) {pl:Nat->Option MI}:ct (⟨pl,cY Z c q (aW b W)⟩:Pm D) c q b W:=by
 intro i hi j v e;have d:j<D.size b:=by rw[<-B.len b W[i]];exact(Zam.1 e).1
 have f:(i+1)*D.size b<=W.length*D.size b:=Zbc _ hi;rw[ZaV] at f;show cY Z c q (aW b W) c (q+i*D.size b+j)=some v
 unfold cY;rw[Zac ⟨rfl,ω,by grind [a_]⟩,show q+i*D.size b+j-q=i*D.size b+j by omega,fw B b W i j hi d];exact e
theorem mR (A:aY D) {mu:Bool} {cap:Nat} {C:Array Value} {fz:Nat×Nat} (h:(newRow D mu s c X q).H (v,s')) (B:dQ M s.h.get w) (N:bT M s.nx s'.nx)
  (da:w.heap.size<=w'.heap.size) (hblk:∀c,c<w.heap.size->w'.heap[c]?=w.heap[c]?) (f:w'.heap[w.heap.size]?=some (.cells C q fz)) (p:fz.1=fz.2\/C.size<=fz.1/\D.size c=1)
  (I:w'.os=w.os) (J:w'.tape=w.tape) (K:w'.output=w.output) (L:∀(i:Nat) (u:AV D.E),(aW c X)[i]?=some u->∃m,C[i]?=some m/\VR M u m) (n:C.size=cap*D.size c) (hl:X.length<=cap) (l:X.length<=9223372036854775807):
  ∃F,VR F v (.slice (some ⟨w.heap.size,0,none⟩) X.length cap)/\cP s.h.get M w s'.h.get F w' s.nx s'.nx:=by
 let mi:MI:=⟨w.heap.size,0,C.size,D.size c,X.length,true⟩
 have O:X.length*D.size c<=C.size:=by rw[n];exact Zbc _ hl
 cases mu with
 | true=>
  have⟨b,S,h1,z⟩:=bk.1 (show(aL (s.new (.arr c X q false)) λb s=>.ret (.own b (D.size c) (ag X),s)).H (v,s') from h);cases au.1 z;obtain⟨rfl,g1,g2⟩:=qb h1;have d:=N _ (Zah _) ω;have k:=cP.mQ (o:=.arr c X q false) (mi:=mi) B d (λ_=>rfl) da hblk I J K ⟨rfl,rfl,λ_=>⟨C,fz,f,rfl,by grind [a_],λi u hu=>by
   have⟨m,y,a2⟩:=L i u hu;exact⟨m,by grind,a2.mono (Pm.qk (mi:=mi) d)⟩,λ_=>p⟩⟩
  refine⟨_,?_,by rw[g1,g2];exact k⟩;exact VR.own (mi:=mi) (by simp[Pm.add]) rfl rfl (by rfl) l hl (by grind)
 | false=>
  have⟨b,S,h1,z⟩:=bk.1 (show(aL (s.new (.tok c q)) λb s=>.ret (.grow c X b,s)).H (v,s') from h);cases au.1 z;obtain⟨rfl,g1,g2⟩:=qb h1;have d:=N _ (Zah _) ω;have r:∀G:Pm D,OR G (.tok c q) mi w':=λG=>⟨rfl,λ_=>⟨C,fz,f,rfl,by grind,p⟩⟩
  have k:=cP.mQ (o:=.tok c q) (mi:=mi) B d (λ_=>rfl) da hblk I J K (r _);have g:∀o,M.sg w.heap.size o=none:=λo=>by
   cases hs:M.sg w.heap.size o with
   | none=>rfl
   | some v=>have:=B.slt hs;omega
  let sg1:=cY M.sg w.heap.size 0 (aW c X)
  let M1:Pm D:=⟨(M.add s.nx mi).pl,sg1⟩
  have e:Le (M.add s.nx mi) M1:=⟨λ_ _ h=>h,kb λo _ _=>g o⟩;have t:=cP.upon (M1:=M1) (sg1:=sg1) (b0:=s.nx) (b1:=s.nx) (o0:=.tok c q) (o1:=.tok c q) (qT:=mi) (A2:=mi) (lo:=s.nx+1) (hi:=s.nx+1) k.fq (by simp[iI]) rfl (by simp[Pm.add]) rfl rfl rfl (by
    show M1=_
    simp only[M1,Pm.add];congr 1;funext x;split<;>rfl) (.inl ⟨rfl,rfl,rfl⟩) (kb λo _ _=>g o) (λb o h=>lV h) rfl (λ_ _=>rfl) rfl rfl rfl (r M1) (λo v R=>by
     have a:cY M.sg w.heap.size 0 (aW c X) w.heap.size o=some v:=R;unfold cY at a;split at a
     ·rename_i P
      have⟨m,y,a2⟩:=L _ v a;refine⟨(dR A (ZaJ a)).2,m,?_,(a2.mono (Pm.qk (mi:=mi) d)).mono e⟩;show w'.cell? ⟨w.heap.size,o,none⟩=some m
      simp only[Zdp] at y;simp[World.cell?,f,y]
     ·rw[g] at a;cases a) (λ_ j Q=>by
     show cY M.sg w.heap.size 0 (aW c X) w.heap.size j=none
     unfold cY;have:=Q;have:0+X.length*D.size c<=j:=this;rw[Zaa (by rw[a_ A];omega)];exact g j)
  have e2:(λx=>if x=s.nx then some (AO.tok c q) else if x=s.nx then none else iI s.h.get s.nx (some (.tok c q)) x)=iI s.h.get s.nx (some (.tok c q)):=by
   grind [iI]
  rw[e2] at t;refine⟨M1,?_,by rw[g1,g2];exact k.trans t⟩;exact VR.grow (mi:=mi) (by simp[M1,Pm.add]) rfl rfl rfl (ct.add A) l hl (by grind)
theorem vP {mu:Bool} (h:(newRow D mu s c [] q).H (v,s')) (g:dQ M s.h.get w) (i:bT M s.nx s'.nx):∃f,VR f v (.slice none 0 0)/\cP s.h.get M w s'.h.get f w s.nx s'.nx:=by
 let mi:MI:=⟨0,0,0,D.size c,0,false⟩
 cases mu with
 | true=>
  have⟨b,j,h1,a⟩:=bk.1 (show(aL (s.new (.arr c [] q false)) λb s=>.ret (.own b (D.size c) (ag ([]:List (D.E c))),s)).H (v,s') from h);cases au.1 a;obtain⟨rfl,g1,g2⟩:=qb h1;have d:=cP.mQ (o:=.arr c [] q false) (mi:=mi) g (i _ (Zah _) ω) (λh=>by cases h) (Zah _) (λ_ _=>rfl) rfl rfl rfl ⟨rfl,rfl,λh=>by cases h⟩;exact⟨M.add s.nx mi,VR.lE (mi:=mi) (by simp[Pm.add]) rfl rfl rfl rfl,by grind⟩
 | false=>
  have⟨b,j,h1,a⟩:=bk.1 (show(aL (s.new (.tok c q)) λb s=>.ret (.grow c ([]:List (D.E c)) b,s)).H (v,s') from h);cases au.1 a;obtain⟨rfl,g1,g2⟩:=qb h1;have d:=cP.mQ (o:=.tok c q) (mi:=mi) g (i _ (Zah _) ω) (λh=>by cases h) (Zah _) (λ_ _=>rfl) rfl rfl rfl ⟨rfl,λh=>by cases h⟩;exact⟨M.add s.nx mi,VR.jF (mi:=mi) (by simp[Pm.add]) rfl,by grind⟩
theorem tu (b:ByteArray) (l h:Nat) (a:l<=h) (c:h<=b.data.toList.length):b.extract l h=⟨⟨(b.data.toList.drop l).take (h-l)⟩⟩:=by
 have e:(b.extract l h).data=⟨(b.data.toList.drop l).take (h-l)⟩:=by
  grind [ByteArray.data_extract]
 cases d:b.extract l h;grind
theorem cL {xs:List (E q)} {d:List (E c)} (h:(gi c q xs).H d):q=c/\HEq xs d:=by
 unfold gi at h;cases b:Nat.decEq q c with
 | isFalse f=>rw[b] at h;exact h.elim
 | isTrue e=>
  rw[b] at h;grind [au]
theorem Jb {x:E q} {y:E c} (h:(IC c q x).H y):q=c/\HEq x y:=by
 unfold IC at h;cases b:Nat.decEq q c with
 | isFalse e=>rw[b] at h;exact h.elim
 | isTrue d=>
  rw[b] at h;grind [au]
structure sF (P:Program) (M:Pm D) (w:World) (c:Nat) (ys:List (D.E c)) (x':Value) (news:List Value):Prop where
 max:ys.length<=9223372036854775807
 lr:LR M (aW c ys) news
 len:∀w2:World,(Builtin.lenOf x').run P w2=.ok ys.length w2
 cells:∀n,n<=ys.length->∀w2:World,w2.heap=w.heap->(Builtin.firstCells (D.size c) n x').run P w2=.ok (news.take (n*D.size c)).toArray w2
variable {c b o:Nat} {L:Value} {Z:List Value}
variable {l:Nat} {d:List (D.E c)}
theorem sF.Lx (i:aY D) {cap:Nat} (hl:l=d.length) (a:l<=9223372036854775807) (h:Rd M w b o (aW c d)):∃news,sF P M w c d (.slice (some ⟨b,o,none⟩) l cap) news:=by
 subst hl;have⟨l,h1,f,g⟩:=h.runs (P:=P);refine⟨l,a,h1,λe=>by rfl,λn j e hw=>?_⟩;grind [a_,Nat.mul_le_mul_right,Builtin.firstCells]
theorem sF.nil {a:Option Addr}:sF P M w c ([]:List (D.E c)) (.slice a 0 b) []:=
 ⟨Zaj _,.nil,λcap=>by rfl,λn d cap _=>by
  obtain rfl:n=0:=by grind
  cases a<;>simp[Builtin.firstCells,loadCells,loadCellsFrom]⟩
theorem Rd.part (f:aY D) {c b o:Nat} {xs:List (D.E c)} (h:Rd M w b o (aW c xs)) (k n:Nat):Rd M w b (o+k*D.size c) (aW c ((xs.drop k).take n)):=by
 intro q v e;have j:=(Zam.1 e).1;rw[a_ f] at j;have a:0<D.size c:=by
  grind
 have hi:q / D.size c<((xs.drop k).take n).length:=Zc6 (by grind);have i:q % D.size c<D.size c:=Zc4 _ a;have d:q / D.size c*D.size c+q % D.size c=q:=by grind [Nat.div_add_mod]
 rw[<-d,fw f c _ _ _ hi i] at e;have key:∀t:Nat,t<((xs.drop k).take n).length->k+t<xs.length:=λt ht=>by grind
 have g:=key _ hi;have l:((xs.drop k).take n)[q / D.size c]=xs[k+q / D.size c]:=by simp
 rw[l] at e;have⟨p,h1,m⟩:=h ((k+q / D.size c)*D.size c+q % D.size c) v (by grind [fw]);grind
theorem y1 (f:aY D) (h1:D.size c=1) {cs:List (AV D.E)} (k:Rd M w b o cs):∀{n sh:Nat} {d:List (D.E c)},(QeB D c cs n sh).H d->d.length=n/\Rd M w b (o+sh) (aW c d)
 | 0,sh,d,h=>by
  cases au.1 (h);exact⟨rfl,λi v e=>by simp[aW] at e⟩
 | n+1,sh,d,h=>by
  have⟨v,q,l⟩:=ai.1 (h);have⟨x,s,m⟩:=ai.1 l;have⟨r,j,p⟩:=ai.1 m;cases au.1 p;have⟨i1,i2⟩:=y1 f h1 k j;have a:=bz.1 q;rw[eI] at a;have⟨z,A⟩:=f.dec c [v] x (bz.1 s);refine⟨by simp[i1],λi u e=>?_⟩;simp only[aW,Zbt] at e;have g:(D.bd c x).length=1:=by rw[f.len,h1]
  cases i with
  | zero=>
   rw[Zat ω] at e;have⟨y,q1,t⟩:=k sh v a;grind
  | succ i=>
   rw[Zaz ω,g] at e;have⟨y,q1,t⟩:=i2 i u (by assumption);grind
def qm (a:aY D):∀xs:List (D.E D.bc),aW D.bc xs=(D.x9 xs).map λb=>AV.int .u8 (b.toNat:Int):=by
 intro xs;apply Zb6;intro i;by_cases hi:i<xs.length
 ·have:=fw a D.bc xs i 0 hi (by rw[a.b1];omega);rw[a.b1,Zb8,Zbn] at this;rw[this,Zbk,Zaf (l:=D.x9 xs) (by rw[a.bl];exact hi),a.be xs i hi];rfl
 ·rw[Zbd (by rw[a_ a,a.b1];omega),Zbd (by rw[Za2,a.bl];omega)]
theorem mS (j:aY D) {x:AV D.E} (h:(aU D s c x).H d) (S:VR M x L) (B:dQ M s.h.get w):∃news,sF P M w c d L news:=by
 have arr:∀{b:Nat} {f:MI} {a:Ar D.E},(j8 s b).H a->M.pl b=some f->f.real->f.len=a.xs.length/\f.iN=D.size a.c/\Rd M w f.bV f.sh (aW a.c a.xs):=by
  intro b f a q g t;have⟨G,r,g1,g2,y⟩:=B.obj b _ (i_ q);rw[g] at r;cases r;exact⟨g1,g2,(y t).rd⟩
 have A:∀{b:Nat} {f:MI} {a:Ar D.E},(j8 s b).H a->M.pl b=some f->f.len=a.xs.length:=by
  intro b f a q g;have⟨G,r,g1,g2,y⟩:=B.obj b _ (i_ q);grind
 cases S<;>simp only[aU] at h<;>(try exact h.elim)
 case list c2 b o cap xs hs g C=>
  obtain⟨rfl,N⟩:=cL h;cases N;exact sF.Lx j rfl g (ph j B hs)
 case eD c2 cap a=>
  obtain⟨rfl,N⟩:=cL h;cases N;exact⟨[],.nil⟩
 case grow c2 b cap xs f g t hl hz hs p C ht=>
  obtain⟨rfl,N⟩:=cL h;cases N;exact sF.Lx j rfl p (ph j B hs)
 case jF c2 b f g t=>
  obtain⟨rfl,N⟩:=cL h;cases N;exact⟨[],.nil⟩
 case own b k cap n f g u t z p C ht=>
  have⟨a,q,m⟩:=ai.1 h;have⟨c2,xs,e,ro⟩:=a;obtain⟨rfl,N⟩:=cL (m);cases N;have⟨g1,_,g3⟩:=arr q g t;exact sF.Lx j g1 p g3
 case lE b k n f g u t z hl=>
  have⟨a,q,m⟩:=ai.1 h;have⟨c2,xs,e,ro⟩:=a;obtain⟨rfl,N⟩:=cL (m);cases N;have h0:xs=[]:=Zap ((A q g).symm.trans hl);subst h0;exact⟨[],.nil⟩
 case pre b k l cap n f g u t z p hl C ht=>
  have⟨a,q,m⟩:=ai.1 h;have⟨c2,xs,e,ro⟩:=a;obtain⟨rfl,N⟩:=cL (m);cases N;have⟨g1,_,g3⟩:=arr q g t;subst z;have:=Rd.part j g3 0 l;rw[ZbS,Zbn] at this;simp only at g1;exact sF.Lx j (by grind [dj]) ω (by assumption)
 case og b k n f g u t z hl=>
  have⟨a,q,m⟩:=ai.1 h;have⟨c2,xs,e,ro⟩:=a;obtain⟨rfl,N⟩:=cL (m);cases N;have h0:xs=[]:=Zap ((A q g).symm.trans hl);subst h0;simp only[dj,Zdl];exact⟨[],.nil⟩
 case part b k l cap o n f g u t z Q hl p C=>
  have⟨a,q,m⟩:=ai.1 h;have⟨c2,xs,e,ro⟩:=a;obtain⟨rfl,N⟩:=cL (m);cases N;have⟨g1,g2,g3⟩:=arr q g t;subst z;have:=Rd.part j g3 o.toNat l;simp only at g1 g2;rw[<-g2] at this;exact sF.Lx j (by grind [qX]) ω (by assumption)
 case jf b k c3 o n f O R u z Q=>
  have⟨a,q,m⟩:=ai.1 h;have⟨c2,xs,e,ro⟩:=a;obtain⟨rfl,N⟩:=cL (m);cases N;subst z;simp only[ Int.toNat_zero];exact⟨[],.nil⟩
 case dd=>
  cases au.1 h;exact⟨[],.nil⟩
 case str l hl=>
  obtain⟨rfl,N⟩:=cL h;cases N;have hlen:(D.ofB l).length=l.length:=by rw[<-j.bl,j.bo]
  have da:(⟨⟨l⟩⟩:ByteArray).size=l.length:=rfl;refine⟨byteCells ⟨⟨l⟩⟩,ω,?_,λT=>by simp[Builtin.lenOf,hlen,da],λn z T _=>?_⟩
  ·rw[qm j,j.bo];refine⟨by simp[byteCells],λi v U e J=>?_⟩;simp only[byteCells,Zbk] at e J;cases I:l[i]? with
   | none=>rw[I] at e;cases e
   | some b=>
    rw[I] at e J;cases e;cases J;exact .int (re b)
  ·rw[j.b1];simp only[Builtin.firstCells,Zzc];congr 1;grind [tu,byteCells]
 case sub b o n cap f g t C p=>
  have⟨h1,m⟩:=bw.1 h;have⟨cs,F,K⟩:=ai.1 m;have⟨e,ro,I⟩:=pf F;have⟨G,r,_,y⟩:=B.obj b _ I;rw[g] at r;cases r;have⟨k1,k2⟩:=y1 j (aM.1 h1) y.rd K;exact sF.Lx j k1.symm p k2
 case oh b o cap O=>
  have⟨h1,m⟩:=bw.1 h;have⟨cs,F,K⟩:=ai.1 m;cases au.1 (K);exact⟨[],.nil⟩
def sF.src (b:aY D) {_e size:Nat} (h:sF P M w c d L Z) (hk:(∃e,P.underlying o=some (.slice e))\/P.underlying o=some .string) (hs:size=D.size c):Src P size o L d.length Z w:=by
 subst hs;have hl:Z.length=d.length*D.size c:=by rw[<-h.lr.1,a_ b]
 have h1:=h.cells d.length (Zah _);rw[<-hl,ZaM] at h1;exact⟨hk,h.len,h1 w rfl,h1 w.drew rfl,hl,sC h.lr (CH b)⟩
def uO {n:Nat} (h:bx (n:Int) b):n*b<=140737488355328:=by
 have h1:=ZaH h;omega
theorem rj (h:(qh P D cd c).H b):ub P c=some (D.size b)/\1<=D.size b:=by
 have⟨a,e,h1⟩:=ai.1 h;grind [ai,bw,au,sE,aM,cm]
def y2 {t u ty e:TypeId} {i:TypeInfo} (ht:P.underlying t=some (.slice e)) (hi:P.info? e=some i) (a:Src P i.size u L b Z w) (h:b<=c):
  (Builtin.append_ #[t,u] ty #[.slice none 0 c,L]).run P w=.ok (.slice none b c) w:=by
 rcases a.kind with⟨d,hk⟩ | hk<;>simp[Builtin.append_,Zza ht,Zza hk,sizeOf,typeInfo,hi,a.len,a.cells,h]
def om (z:Array Value) (n:Nat):(Builtin.zeroCells z n).size=n*z.size:=by simp[Builtin.zeroCells]
structure ApS (P:Program) (D:Data) (t u e c:Nat) (bytes:Nat) (i:TypeInfo) (z:Value):Prop where
 ht:P.underlying t=some (.slice e)
 hi:P.info? e=some i
 hz:i.zero=some z
 da:i.size=D.size c
 Ϲ:z.cells.size=D.size c
 N':i.bytes=bytes
 kP:1<=bytes
variable {z G:Value} {v:AV D.E} {Z u e c X l:Nat} {i:TypeInfo} {b:List Value} {O:MI} {L:St D.E}
variable {k d:List (D.E c)} {m:List Value}
theorem rk (A:aY D) {mu:Bool} {ty len cap:Nat} (ap:ApS P D Z u e c X i z) {xs:List (D.E c)} {base:Option Addr} (h:(newRow D mu s c (xs++d) e).H (v,s'))
  (J:dQ M s.h.get w) (N:bT M s.nx s'.nx) (hlen:len=xs.length) (hold:LR M (aW c xs) b) (p:(Builtin.firstCells i.size len (.slice base len cap)).run P w.drew=.ok b.toArray w.drew) (q:Src P i.size u G d.length m w) (g:LR M (aW c d) m)
  (o:cap<len+d.length) (l:bx (ag (xs++d)) X):uN s M w ((Builtin.append_ #[Z,u] ty #[.slice base len cap,G]).run P w) v s':=by
 subst hlen;have K:(xs.length+d.length)*i.bytes<=140737488355328:=by
  have:=uO (n:=(xs++d).length) l;rw[Zab] at this;rw[ap.N'];exact this
 have Q:xs.length+d.length<=(xs.length+d.length)*i.bytes:=Zcn _ (by rw[ap.N'];exact ap.kP);have f:=run_append_grow_src (P:=P) (ty:=ty) w Z u e i z ap.ht ap.hi ap.hz base xs.length cap b p G d.length m q o ω (growslice_fits o K);have B:=grownCap_ge w (xs.length+d.length) cap e;have k:=grownCap_le_maxLen w (xs.length+d.length) cap e (by grind [maxLen]);unfold maxLen at k;generalize grownCap w (xs.length+d.length) cap e=x at f B k;have F:b.length=xs.length*D.size c:=by rw[<-hold.1,a_ A]
 have C:m.length=d.length*D.size c:=by rw[<-g.1,a_ A]
 have a:=hold.app g;rw[<-fx] at a;have y:((b++m).toArray++Builtin.zeroCells z.cells (x-(xs.length+d.length))).size=x*D.size c:=by
  rw[Zct,om,ap.Ϲ,Zb5,Zab,C,F,<-ZbL,<-ZbL];grind
 have r:=cP.uL J s.nx;have⟨I,k1,k2⟩:=mR (w:=w.drew) (w':=w.drew.alloc (.cells ((b++m).toArray++Builtin.zeroCells z.cells (x-(xs.length+d.length))) e)) (fz:=(0,0)) (cap:=x) A h r.fq N (by simp) (λc L=>Below.heap_alloc _ _ _ L) (by show(w.heap.push _)[w.heap.size]?=_;simp) (.inl rfl) rfl rfl rfl
  (λj S O=>by
   have⟨R,g1,g2⟩:=a.get O;refine⟨R,?_,g2⟩;rw[ZbT (by grind),Zc0];exact g1) y (by grind) (by grind)
 refine⟨I,_,_,f,?_,r.trans k2⟩;simp_all
def y3 (H:Hp D) (b1 a:Nat) (b:AO D.E):(λx=>if x=b1 then some b else if x=a then none else H x)=iI (iI H a none) b1 (some b):=by
 rfl
theorem Wz (A:aY D) {ty b cap:Nat} {mi:MI} (ap:ApS P D Z u e c X i z) {xs:List (D.E c)} (U:s.h.get b=some (.tok c e)) (N:(s.set b none).H L)
  (h:(AN D L c (xs++d) e).H (v,s')) (R:dQ M s.h.get w) (hf:bT M s.nx s'.nx) (bytes:M.pl b=some mi) (t:mi.real) (hl:mi.len=xs.length) (hz:mi.iN=D.size c) (hs:ct M mi.bV mi.sh c xs) (ht:mi.sh+cap*mi.iN=mi.p_) (hle:l=xs.length)
  (Q:Src P i.size u G d.length m w) (x:LR M (aW c d) m) (q:l+d.length<=cap) (s2:(xs++d).length<=9223372036854775807):
  uN s M w ((Builtin.append_ #[Z,u] ty #[.slice (some ⟨mi.bV,mi.sh,none⟩) l cap,G]).run P w) v s':=by
 subst hle;have⟨g1,g2⟩:=ka N;have⟨nb,s3,h1,h2⟩:=bk.1 (h);cases au.1 h2;obtain⟨rfl,g3,g4⟩:=qb h1;have F:=hf _ (Zah _) ω;have⟨N8,K,hes,Y⟩:=R.obj b _ U;rw[bytes] at K;cases K;have⟨C,fz,T,hCs,O,x'⟩:=Y t;have hnl:m.length=d.length*D.size c:=by rw[<-x.1,a_ A]
 have hcm:(xs.length+d.length)*D.size c<=cap*D.size c:=Zbc _ q;rw[hz] at ht O;rw[hl] at O;have hmul:(xs.length+d.length)*D.size c=xs.length*D.size c+d.length*D.size c:=ZbL _ _ _;have y:=run_append_room_src (P:=P) (ty:=ty) w Z u e i ap.ht ap.hi mi.bV mi.sh xs.length cap G d.length m Q q (λj V=>by
  rw[ap.da];have:mi.sh+xs.length*D.size c+j<C.size:=ω;simp[World.cell?,T,this]) (λj V=>by
  rw[ap.da];have:mi.sh+xs.length*D.size c+j<C.size:=ω;simp only[World.frozen?,T];rcases x' with hz | hz
  ·rw[hz];simp;try omega
  ·simp;try omega)
 rw[ap.da] at y;have⟨S,q3,q4,q5⟩:=ff mi.bV e fz m (mi.sh+xs.length*D.size c) w C T ω;have⟨r1,r2,r3⟩:=dH mi.bV m (mi.sh+xs.length*D.size c) w
 let p:MI:=⟨mi.bV,mi.sh,mi.p_,mi.iN,(xs++d).length,true⟩
 let sg1:=cY M.sg mi.bV (mi.sh+xs.length*D.size c) (aW c d)
 let M1:Pm D:=⟨λk=>if k=s.nx then some p else M.pl k,sg1⟩
 have f:∀o,mi.sh+xs.length*D.size c<=o->M.sg mi.bV o=none:=λo ho=>R.sep b _ mi U rfl bytes t o (by show mi.sh+mi.len*mi.iN<=o;rw[hl,hz];exact ho)
 have n:Fu M M1:=kb λo h1 _=>f o h1
 have r:Le M M1:=⟨λk a hk=>by
  show(if k=s.nx then some p else M.pl k)=some a
  by_cases e:k=s.nx
  ·rw[e,F] at hk;cases hk
  ·rw[Zaa e];exact hk,n⟩
 have hup:=cP.upon (M1:=M1) (sg1:=sg1) (b0:=b) (b1:=s.nx) (o0:=.tok c e) (o1:=.tok c e) (qT:=mi) (A2:=p) (lo:=s.nx) (hi:=s.nx+1) (w':=w.setCells mi.bV (mi.sh+xs.length*D.size c) m) R U rfl bytes t rfl rfl rfl (.inr ⟨rfl,F,rfl⟩) n (λb o h=>lV h)
  (dG _ _ _ _) (λk hk=>dm _ _ _ _ k hk) r1 r2 r3 ⟨hz,λ_=>⟨S,fz,q3,by grind,by
   show mi.sh+(xs++d).length*mi.iN<=mi.p_
   rw[Zab,hz];omega,x'⟩⟩ (λo u' hu=>by
   have g:cY M.sg mi.bV (mi.sh+xs.length*D.size c) (aW c d) mi.bV o=some u':=hu;unfold cY at g;split at g
   ·rename_i I
    have⟨_,hin1,J⟩:=I;rw[a_ A] at J;have⟨B,a1,a2⟩:=x.get g;refine⟨(dR A (ZaJ g)).2,B,?_,a2.mono r⟩;have:S[o]?=some B:=by grind
    simp[World.cell?,q3,this]
   ·rename_i I
    have⟨hp,B,hc,hv⟩:=R.gj _ _ _ g;have hlt:o<mi.sh+xs.length*D.size c:=by
     rcases Zbm o (mi.sh+xs.length*D.size c) with h0 | h0
     ·exact h0
     ·rw[f o h0] at g;cases g
    refine⟨hp,B,?_,hv.mono r⟩;have h7:C[o]?=some B:=by grind [World.cell?]
    have:S[o]?=some B:=by grind
    simp[World.cell?,q3,this]) (λ_ j V=>by
   have W:mi.sh+(xs++d).length*mi.iN<=j:=V;rw[Zab,hz] at W;show cY M.sg mi.bV (mi.sh+xs.length*D.size c) (aW c d) mi.bV j=none
   unfold cY;rw[Zaa (by rw[a_ A];omega)];exact f j ω)
 rw[y3] at hup;refine⟨M1,_,_,y,?_,by grind⟩;have:=VR.grow (M:=M1) (b:=s.nx) (c:=c) (cap:=cap) (xs:=xs++d) (mi:=p) (by simp[M1]) rfl rfl hz ((hs.mono n).app A (ct.add A)) s2 (by grind) (by grind);grind
theorem WA (O:aY D) {ty b cap:Nat} {mi:MI} (ap:ApS P D Z u e c X i z) {f:List (D.E c)} {n:Nat} (S:s.h.get b=some (.arr c k e false)) (K:(s.set b none).H L)
  (h:(aL (L.new (.arr c (d++f) e false)) λb s=>.ret (.own b (D.size c) (ag (d++f)),s)).H (v,s')) (R:dQ M s.h.get w) (hf:bT M s.nx s'.nx) (U:M.pl b=some mi) (V:mi.real) (ht:mi.sh+cap*mi.iN=mi.p_) (Y:d=k.take n) (hn:n<=k.length)
  (s2:Src P i.size u G f.length m w) (x:LR M (aW c f) m) (q:n+f.length<=cap) (J:(d++f).length<=9223372036854775807):
  uN s M w ((Builtin.append_ #[Z,u] ty #[.slice (some ⟨mi.bV,mi.sh,none⟩) n cap,G]).run P w) v s':=by
 have⟨g1,g2⟩:=ka K;have⟨nb,s3,h1,h2⟩:=bk.1 h;cases au.1 h2;obtain⟨rfl,g3,g4⟩:=qb h1;have x':=hf _ (Zah _) ω;have⟨N8,I,hl,A,T⟩:=R.obj b _ S;rw[U] at I;cases I;have⟨C,fz,Q,hCs,W,g,l⟩:=T V;have l:=l rfl;rw[a_ O] at W;have N:d.length=n:=by grind
 have hnl:m.length=f.length*D.size c:=by rw[<-x.1,a_ O]
 have hcm:(n+f.length)*D.size c<=cap*D.size c:=Zbc _ q;have hmul:(n+f.length)*D.size c=n*D.size c+f.length*D.size c:=ZbL _ _ _;rw[A] at ht;have y:=run_append_room_src (P:=P) (ty:=ty) w Z u e i ap.ht ap.hi mi.bV mi.sh n cap G f.length m s2 q (λj F=>by
  rw[ap.da];have:mi.sh+n*D.size c+j<C.size:=ω;simp[World.cell?,Q,this]) (λj F=>by
  rw[ap.da];have:mi.sh+n*D.size c+j<C.size:=ω;simp only[World.frozen?,Q];rcases l with hz | hz
  ·rw[hz];simp;try omega
  ·simp;try omega)
 rw[ap.da] at y;have⟨C',q3,q4,q5⟩:=ff mi.bV e fz m (mi.sh+n*D.size c) w C Q ω;have⟨r1,r2,r3⟩:=dH mi.bV m (mi.sh+n*D.size c) w
 let p:MI:=⟨mi.bV,mi.sh,mi.p_,mi.iN,(d++f).length,true⟩
 let M1:Pm D:=⟨λxs=>if xs=s.nx then some p else M.pl xs,M.sg⟩
 have r:Le M M1:=⟨λxs a hk=>by
  show(if xs=s.nx then some p else M.pl xs)=some a
  by_cases e:xs=s.nx
  ·rw[e,x'] at hk;cases hk
  ·rw[Zaa e];exact hk,λ_ _ _ h=>h⟩
 have B:∀j,M.sg mi.bV j=none:=λj=>R.sep b _ mi S rfl U V j trivial
 have bytes:=cP.upon (M1:=M1) (sg1:=M.sg) (b0:=b) (b1:=s.nx) (o0:=.arr c k e false) (o1:=.arr c (d++f) e false) (qT:=mi) (A2:=p) (lo:=s.nx) (hi:=s.nx+1) (w':=w.setCells mi.bV (mi.sh+n*D.size c) m) R S rfl U V rfl rfl rfl (.inr ⟨rfl,x',rfl⟩) (λ_ _ _ h=>h) (λb o h=>.inl h)
  (dG _ _ _ _) (λxs hk=>dm _ _ _ _ xs hk) r1 r2 r3 ⟨rfl,A,λ_=>⟨C',fz,q3,by grind,by
   rw[a_ O,Zab,N];show mi.sh+(n+f.length)*D.size c<=mi.p_
   omega,λj u' F=>by
   rw[fx] at F;have hzr:(aW c d).length=n*D.size c:=by rw[a_ O,N]
   by_cases hjl:j<n*D.size c
   ·rw[Zat ω] at F;have hpre:aW c k=aW c d++aW c (k.drop n):=by rw[Y,<-fx,ZaO]
    have⟨t,a1,a2⟩:=g j u' (by grind);exact⟨t,by grind,a2.mono r⟩
   ·rw[Zaz ω] at F;have⟨t,a1,a2⟩:=x.get F;have hjn:=(Zam.1 a1).1;exact⟨t,by grind,a2.mono r⟩,λ_=>l⟩⟩
  (λo u' hu=>by grind) (λ_ j _=>B j)
 rw[y3] at bytes;refine⟨M1,_,_,y,?_,by grind⟩;have:=VR.own (M:=M1) (b:=s.nx) (cap:=cap) (n:=ag (d++f)) (mi:=p) (by simp[M1]) A rfl rfl J (by grind) (by grind);grind
theorem mT (B:aY D) {ty b n cap:Nat} (ap:ApS P D Z u e c X i z) {cut:List (D.E c)->List (D.E c)} {x':Value} (h:(Ff D X s c e b cut k).H (v,s')) (N:dQ M s.h.get w) (hf:bT M s.nx s'.nx) (hm:M.pl b=some O)
  (C:∀xs:List (D.E c),O.len=xs.length->cut xs=xs.take n) (hn:n<=O.len) (Y:O.len<=9223372036854775807) (hd:(O.real/\G=.slice (some ⟨O.bV,O.sh,none⟩) n cap/\O.len<=cap/\O.sh+cap*O.iN=O.p_)\/(O.real=false/\G=.slice none 0 0/\O.len=0))
  (g:Src P i.size u x' k.length m w) (j:LR M (aW c k) m):uN s M w ((Builtin.append_ #[Z,u] ty #[G,x']).run P w) v s':=by
 have⟨⟨c2,xs,e2,ro⟩,ha,h1⟩:=ai.1 h;have f:=i_ ha;cases ro with
 | true=>exact h1.elim
 | false=>
  have⟨t,h2⟩:=bw.1 (h1);have⟨xs2,V,h3⟩:=ai.1 h2;obtain⟨rfl,hq⟩:=cL V;cases hq;rw[aM] at t;subst t;have⟨d,h4⟩:=cT.1 h3;have⟨s2,l,x⟩:=ai.1 h4;have⟨N8,F,g1,g2,Q⟩:=N.obj b _ f;rw[hm] at F;cases F;simp only at g1 g2 f;rw[(C xs g1)] at x d;have J:(xs.take n).length=n:=by grind
  have⟨k1,k2⟩:=ka l;have a:=cP.drop (b:=b) N s.nx;have o:dQ M s2.h.get w:=by rw[k1];exact a.fq
  have p:bT M s2.nx s'.nx:=by grind
  have hlen:(xs.take n++k).length<=140737488355328:=by
   have:=uO (n:=(xs.take n++k).length) d;have h9:(xs.take n++k).length<=(xs.take n++k).length*X:=Zcn _ ap.kP;omega
  rcases hd with⟨S,rfl,hmc,I⟩ | ⟨S,rfl,h0⟩
  ·by_cases r:n+k.length<=cap
   ·exact WA B ap f l x N hf hm S I rfl ω g j r ω
   ·have T:Rd M w O.bV O.sh (aW c2 (xs.take n)):=by
     have:=Rd.part B (Q S).rd 0 n;grind
    have⟨old',R,_,q⟩:=T.run (P:=P);have L:=q w.drew rfl;rw[a_ B,J] at L;have⟨A,W,bytes,q1,y,K⟩:=rk (mu:=true) (len:=n) (cap:=cap) (base:=some ⟨O.bV,O.sh,none⟩) (ty:=ty) B ap x o p J.symm R (by rw[ap.da];simpa [Builtin.firstCells] using L) g j ω d;refine⟨A,W,bytes,q1,y,?_⟩;rw[k1,k2] at K;exact a.trans K
  ·have U:=Zap (g1.symm.trans h0);subst U;rw[Zdl] at x d;by_cases hy:k=[]
   ·subst hy;have⟨A,q1,y⟩:=vP (mu:=true) x o p;refine⟨A,.slice none 0 0,w,?_,q1,?_⟩
    ·exact y2 ap.ht ap.hi g (Zah _)
    ·rw[k1,k2] at y;exact a.trans y
   ·have hpos:=Zbe.2 hy;have⟨A,W,bytes,q1,y,K⟩:=rk (mu:=true) (len:=0) (cap:=0) (base:=none) (ty:=ty) (xs:=[]) B ap x o p rfl .nil (by rfl) g j ω d;refine⟨A,W,bytes,q1,y,?_⟩;rw[k1,k2] at K;exact a.trans K
theorem vQ (p:aY D) {mu:Bool} {ty:Nat} (ap:ApS P D Z u e c X i z) (h:(newRow D mu s c k e).H (v,s')) (j:dQ M s.h.get w) (g:bT M s.nx s'.nx)
  (a:Src P i.size u G k.length b w) (f:LR M (aW c k) b) (d:bx (ag k) X):uN s M w ((Builtin.append_ #[Z,u] ty #[.slice none 0 0,G]).run P w) v s':=by
 by_cases m:k=[]
 ·subst m;have⟨o,q1,q⟩:=vP h j g;exact⟨o,.slice none 0 0,w,y2 ap.ht ap.hi a (Zah _),q1,q⟩
 ·have l:=Zbe.2 m;exact rk (len:=0) (cap:=0) (base:=none) (ty:=ty) (xs:=[]) p ap h j g rfl .nil (by rfl) a f ω d
theorem CI (o:aY D) {mu:Bool} {t u ty:TypeId} {x d:AV D.E} (h:(IG P D cd mu s t u v x).H (d,s')) (hd:VR M v z) (hx:VR M x G) (B:dQ M s.h.get w) (hf:bT M s.nx s'.nx):
  uN s M w ((Builtin.append_ #[t,u] ty #[z,G]).run P w) d s':=by
 have⟨dt,X,h1⟩:=ai.1 h;have⟨e,he,h2⟩:=ai.1 h1;have⟨du,O,h3⟩:=ai.1 h2;have⟨S,h4⟩:=bw.1 h3;have⟨c,hc,h5⟩:=ai.1 h4;have⟨bytes,N',h6⟩:=ai.1 h5;have⟨hbm,h7⟩:=bw.1 h6;have⟨kP,h8⟩:=bw.1 h7;have⟨zz,QkX,h8a⟩:=ai.1 h8;have⟨hzl,h8b⟩:=bw.1 h8a;have⟨ys,hys,A⟩:=ai.1 h8b;rw[gB] at X O;have⟨da,_⟩:=rj hc;have⟨i,hi,hiz⟩:=pe da;have⟨i2,Z,hib⟩:=yZ (bz.1 N');rw[hi] at Z;cases Z;have Y:P.underlying t=some (.slice e):=by cases dt<;>first | (cases au.1 he;exact X) | exact he.elim
 have hk:(∃e',P.underlying u=some (.slice e'))\/P.underlying u=some .string:=by
  cases du<;>first | exact .inl ⟨_,O⟩ | exact .inr O | cases S
 have⟨new',hsr⟩:=mS (P:=P) o hys hx B;have g:=hsr.src (size:=i.size) (_e:=e) o hk hiz;have f:=hsr.lr;have⟨i3,d',hi3,hz,hzv⟩:=lT QkX;rw[hi] at hi3;cases hi3;have Ϲ:d'.cells.size=D.size c:=by
  have:=(eO (hzv M)).1;grind [gL,aM]
 have ap:ApS P D t u e c bytes i d':=⟨Y,hi,hz,hiz,Ϲ,hib,cm.1 kP⟩;cases hd<;>simp only[Ct] at A<;>(try exact A.elim)
 case dd=>
  grind [cT,vQ]
 case own b k cap n C q R r hn T N ht=>
  exact mT (n:=C.len) (cap:=cap) o ap A B hf q (λxs hl=>by grind) (Zah _) T (.inl ⟨r,rfl,N,ht⟩) g f
 case lE b k n C q R r hn hl=>
  exact mT (n:=0) (cap:=0) o ap A B hf q (λxs hx0=>by grind) (Zaj _) ω (.inr ⟨r,rfl,hl⟩) g f
 case pre b k l cap n C q R r hn T hl N ht=>
  grind [mT,dj]
 case og b k n C q R r hn hl=>
  subst hn;exact mT (n:=0) (cap:=0) o ap A B hf q (λxs _=>by rfl) (Zaj _) ω (.inr ⟨r,rfl,hl⟩) g f
 case grow c2 b cap xs C q r hl hzz hs T N ht=>
  have⟨c3,e3,htk,F⟩:=bk.1 A;have⟨q1,x'⟩:=bw.1 F;have⟨y,I⟩:=bw.1 x';rw[aM] at q1 y;subst q1 y;have⟨xs2,W,J⟩:=ai.1 I;obtain⟨rfl,hq⟩:=cL W;cases hq;have⟨j,K⟩:=cT.1 J;have⟨s2,m,p⟩:=ai.1 K;have hlen:(xs++ys).length<=140737488355328:=by
   have:=uO (n:=(xs++ys).length) j;have A:(xs++ys).length<=(xs++ys).length*bytes:=Zcn _ (cm.1 kP);omega
  by_cases V:xs.length+ys.length<=cap
  ·exact Wz o ap (Wy htk) m p B hf q r hl hzz hs ht rfl g f V ω
  ·have⟨k1,k2⟩:=ka m;have a:=cP.drop (b:=b) B s.nx;have L:dQ M s2.h.get w:=by rw[k1];exact a.fq
   have Q:bT M s2.nx s'.nx:=by grind
   have⟨old',hol,_,U⟩:=(ph o B hs).run (P:=P);have hrn:=U w.drew rfl;rw[a_ o] at hrn;have⟨M',v',w',q1,y,q3⟩:=rk (mu:=false) (len:=xs.length) (cap:=cap) (base:=some ⟨C.bV,C.sh,none⟩) (ty:=ty) o ap p L Q rfl hol (by grind [Builtin.firstCells]) g f ω j;refine⟨M',v',w',q1,y,?_⟩;rw[k1,k2] at q3;exact a.trans q3
 case jF c2 b C q r=>
  have⟨c3,e3,htk,F⟩:=bk.1 A;have⟨q1,x'⟩:=bw.1 F;have⟨y,I⟩:=bw.1 x';rw[aM] at q1 y;subst q1 y;have⟨xs2,W,J⟩:=ai.1 I;obtain⟨rfl,hq⟩:=cL W;cases hq;have⟨j,K⟩:=cT.1 J;have⟨s2,m,p⟩:=ai.1 K;have⟨k1,k2⟩:=ka m;have a:=cP.drop (b:=b) B s.nx;have L:dQ M s2.h.get w:=by rw[k1];exact a.fq
  have Q:bT M s2.nx s'.nx:=by grind
  have⟨M',v',w',q1,y,q3⟩:=vQ (mu:=false) (ty:=ty) o ap p L Q g f j;refine⟨M',v',w',q1,y,?_⟩;rw[k1,k2] at q3;exact a.trans q3
end
section
variable {P:Program} {D:Data} {cd:TypeId->Option Nat} {M M':Pm D} {φ:T (AV D.E)} {a:Act} {N:Nat} {w w':World} {H:Hp D} {s s':St D.E}
variable {b c:Nat} {v:AV D.E} {Z:Type} {Y:TypeId} {d:List Value} {X:Array (Nat×Operand)}
theorem Jc (i:aY D) {e o:Nat} {xs a:List (D.E c)} {vs':List Value} {d:MI} (m:H b=some (.arr c xs e false)) (n:M.pl b=some d) (r:d.real) (l:dQ M H w) (s:LR M (aW c a) vs') (x:o+a.length<=xs.length) (lo:Nat):
  (storeCells ⟨d.bV,d.sh+o*d.iN,none⟩ vs' 0).run P w=.ok () (w.setCells d.bV (d.sh+o*d.iN) vs')/\cP H M w (iI H b (some (.arr c (xs.take o++a++xs.drop (o+a.length)) e false))) M (w.setCells d.bV (d.sh+o*d.iN) vs') lo lo:=by
 obtain⟨A,g,hl,f,j⟩:=l.obj b _ m;rw[n] at g;cases g;obtain⟨C,u,k1,k2,k3,k4,k5⟩:=j r;rw[a_ i] at k3;have y:vs'.length=a.length*D.size c:=by rw[<-s.1,a_ i]
 have hmul:(o+a.length)*D.size c<=xs.length*D.size c:=Zbc _ x;rw[ZbL] at hmul;have z:(xs.take o++a++xs.drop (o+a.length)).length=xs.length:=by
  grind
 have k:(aW c (xs.take o)).length=o*D.size c:=by grind [a_]
 have e2:(aW c a).length=a.length*D.size c:=a_ i c a;have p:aW c xs=aW c (xs.take o)++aW c ((xs.drop o).take a.length)++aW c (xs.drop (o+a.length)):=by
  grind [fx,List.drop_drop,List.take_append_drop]
 have I:(aW c ((xs.drop o).take a.length)).length=a.length*D.size c:=by grind [a_]
 obtain⟨c1,c2,c3⟩:=ri (o1:=.arr c (xs.take o++a++xs.drop (o+a.length)) e false) (q:=d.sh+o*d.iN) (vs':=vs') l m rfl n r k1 k2 (by grind) (k5 rfl) (λ_=>trivial) (λt B F G=>⟨ω,f,λ_=>⟨t,u,B,F.trans k2,by grind [a_],λq v h=>by
  rw[fx,fx] at h;rw[G,f];by_cases h1:q<o*D.size c
  ·rw[Zat (by grind),Zat ω] at h;rw[Zaa ω];exact k4 q v (by grind)
  ·by_cases J:q<o*D.size c+a.length*D.size c
   ·rw[Zat (by grind),Zaz ω,k] at h;rw[Zac ω,show d.sh+q-(d.sh+o*D.size c)=q-o*D.size c by omega];exact s.get h
   ·rw[Zaz (by grind),Zab,k,e2] at h;rw[Zaa ω];exact k4 q v (by grind),k5⟩⟩) lo
 grind [run_storeCells_cells,sC,CH]
def CJ (xs a:List Z) (o n:Nat):Cq xs (o:Int) (n:Int) a=xs.take o++a.take n++xs.drop (o+(a.take n).length):=by rfl
theorem Jd (a b:Nat):fK (a:Int) (b:Int)=((Nat.min b a:Nat):Int):=by
 grind [fK]
theorem mU (b:aY D) (c:Nat) (a:List (D.E c)) (n:Nat):aW c (a.take n)=(aW c a).take (n*D.size c):=by
 by_cases h:n<=a.length
 ·grind [fx,List.take_append_drop,a_]
 ·grind [List.take_of_length_le,a_,Nat.mul_le_mul_right]
def At (M:Pm D) (b:Nat) (o n:Nat) (c:Value):Prop:=∃a,M.pl b=some a/\((a.real/\o+n<=a.len/\n<=9223372036854775807/\∃cap,c=.slice (some ⟨a.bV,a.sh+o*a.iN,none⟩) n cap)\/(n=0/\∃d cap,c=.slice d 0 cap))
theorem mW (r:aY D) {ty e c:TypeId} {o n:Nat} {x:AV D.E} {G O:Value} {N:Array TypeId} {F:Array Value} (h:(AP D s b (o:Int) (n:Int) v c).H (x,s')) (W:At M b o n G) (Z:VR M v O) (q:dQ M s.h.get w)
  (ht:P.underlying Y=some (.slice e)) (da:ub P e=some (D.size c)) (h0:N[0]?=some Y) (h1:F[0]?=some G) (I:F[1]?=some O):uN s M w ((Builtin.copy_ N ty F).run P w) x s':=by
 obtain⟨⟨c2,xs,e2,ro⟩,U,J⟩:=ai.1 h;have u:=i_ U;cases ro with
 | true=>exact J.elim
 | false=>
  obtain⟨d,C,R⟩:=ai.1 (show(az (aU D s c2 v) _).H (x,s') from J);obtain⟨j,S⟩:=bw.1 R;rw[aM] at j;subst j;obtain⟨s2,p,T⟩:=ai.1 S;cases au.1 T;obtain⟨g1,g2⟩:=ka p;obtain⟨news,g⟩:=mS (P:=P) r C Z q;obtain⟨mi,K,y⟩:=W;obtain⟨N8,l,hl,z,V⟩:=q.obj b _ u;rw[K] at l;cases l;simp only at hl z u;have m:Nat.min d.length n<=d.length:=ZdI _ _;have a:=g.cells (Nat.min d.length n) m w rfl;have B:d.take n=d.take (Nat.min d.length n):=by
   grind
  have A:LR M (aW c (d.take n)) (news.take (Nat.min d.length n*D.size c)):=by
   rw[B,mU r];exact g.lr.take _
  have f:VR M (.int .i64 (fK (n:Int) (ag d)):AV D.E) (goInt (Nat.min d.length n))\/9223372036854775807<n:=by
   by_cases L:n<=9223372036854775807
   ·left;rw[show ag d=(d.length:Int) from rfl,Jd];exact .int (iZ (Zav (ZcW _ _) L))
   ·omega
  rw[CJ] at g1;rcases y with⟨t,X,L,cap,rfl⟩ | ⟨rfl,Q,cap,rfl⟩
  ·have f:=f.resolve_right ω;obtain⟨q1,q2⟩:=Jc (P:=P) r u K t q A (o:=o) (by grind) s.nx;refine⟨M,_,_,?_,f,by rw[g1,g2];exact q2⟩;simp only[Builtin.copy_,h0,h1,I,Zzd,Zzb,Zza ht,g.len,cI da,a,Zzc];rw[q1];rfl
  ·have f:=f.resolve_right ω;have i:iI s.h.get b (some (.arr c (xs.take o++d.take 0++xs.drop (o+(d.take 0).length)) e2 false))=s.h.get:=by
    funext k;unfold iI;simp_all
   rw[i] at g1;refine⟨M,_,w,?_,f,by rw[g1,g2];exact .refl q _⟩;have hz:Nat.min d.length 0=0:=by grind
   rw[hz] at a ⊢;rw[ZbS,ZcA] at a;cases Q<;>simp[Builtin.copy_,h0,h1,I,Zza ht,g.len,cI da,a,storeCells]
theorem y4 (off:Nat):∀(a:List Value) (k:Nat) (C:Array Value),off+k+a.length<=C.size->
  ((a.zipIdx k).foldl (λcs (p:Value×Nat)=>cs.setIfInBounds (off+p.2) p.1) C).size=C.size/\
  ∀i,((a.zipIdx k).foldl (λcs (p:Value×Nat)=>cs.setIfInBounds (off+p.2) p.1) C)[i]?=if off+k<=i/\i<off+k+a.length then a[i-(off+k)]? else C[i]?
 | [],k,C,h=>⟨rfl,λi=>by simp;omega⟩
 | v::a,k,C,h=>by
  simp only[Zae] at h;obtain⟨h1,b⟩:=y4 off a (k+1) (C.setIfInBounds (off+k) v) (by grind);grind [List.zipIdx_cons]
theorem rp {aO:Nat->C (Nat×Nat)} {place':Nat->Option (Nat×Nat)} (G:∀i p,(aO i).H p->place' i=some p) (o:FR M φ a N):∀{d:List (Nat×Operand)} {cs r:List (AV D.E)} {C:Array Value},(vC P D aO φ d cs).H r->LR M cs C.toList->
  ∃f,Instr.fill place' C (d.map λp=>(p.1,a.eval p.2))=some f/\LR M r f.toList
 | [],cs,r,C,h,hl=>by cases au.1 (show(sx.C.ret cs).H r from h);exact⟨C,rfl,hl⟩
 | (i,x)::d,cs,r,C,h,hl=>by
  have h1:(aL (aO i) λoff size=>az (ev P D φ x) λv=>bB (Nat.beq (jM (c_ v)) size) (az (cN (Cp off (c_ v) cs)) λcs=>vC P D aO φ d cs)).H r:=h;obtain⟨off,size,I,y⟩:=bk.1 h1;obtain⟨v,J,z⟩:=ai.1 y;obtain⟨hs,A⟩:=bw.1 z;obtain⟨g,c,B⟩:=ai.1 A;have m:=dx J o;have b:=eO m;obtain⟨p1,p2,p3⟩:=iM (bz.1 c);rw[aM,gL] at hs;have da:(a.eval x).cells.size=size:=by rw[<-hs,b.1,Zba]
  have F:cs.length=C.size:=by rw[hl.1,Zba]
  have q:off+(a.eval x).cells.size<=C.size:=ω;obtain⟨t,w⟩:=y4 off (a.eval x).cells.toList 0 C (by assumption);have l:LR M g (((a.eval x).cells.toList.zipIdx 0).foldl (λcs (p:Value×Nat)=>cs.setIfInBounds (off+p.2) p.1) C).toList:=by
   refine⟨p2.trans (F.trans (t.symm.trans Array.length_toList.symm)),λj u s e k=>?_⟩;rw[p3] at e;rw[ZaL,w] at k;by_cases n:off<=j/\j<off+(c_ v).length
   ·rw[Zac n] at e;rw[Zac (by grind)] at k;exact b.2 _ u s e (by assumption)
   ·rw[Zaa n] at e;rw[Zaa (by grind)] at k;exact hl.2 j u s e (by grind)
  obtain⟨f,g1,g2⟩:=rp G o B l;grind [Instr.fill,Array.toList_zipIdx]
theorem rq:∀{fs:List Field},ϱ P fs->∃a,fs.mapM (λf=>(P.info? f.type).map λi=>(f.offset,i.size))=some a/\∀i p,(OB P fs i).H p->a[i]?=some p
 | [],_=>⟨[],rfl,λi p h=>by
  obtain⟨f,b,_⟩:=ai.1 h;have b:=bz.1 b;rw[eI] at b;simp at b⟩
 | f::fs,h=>by
  have e:=dP.1 h;have b:=e f (by simp);have hi:∃k,ub P f.type=some k:=by
   cases hs:ub P f.type with
   | none=>rw[hs] at b;cases b
   | some k=>exact⟨k,rfl⟩
  obtain⟨k,hk⟩:=hi;obtain⟨i,hi,l⟩:=pe hk;obtain⟨a,o,d⟩:=rq (fs:=fs) (dP.2 λx q=>e x (by grind));refine⟨(f.offset,i.size)::a,by simp_all,λj p m=>?_⟩;cases j with
  | zero=>
   obtain⟨g,c,n⟩:=ai.1 m;cases(show some f=some g from bz.1 c);grind [ai,au,sE]
  | succ j=>
   refine d j p ?_;assumption
theorem CK (h:(II P D φ Y X.toList).H v) (q:FR M φ a N):
  ∃r,(∀w,(Instr.build Y (X.map λ(i,x)=>(i,a.eval x))).run P w=.ok r w)/\VR M v r:=by
 obtain⟨z,hz,h1⟩:=ai.1 h;obtain⟨d,u,j⟩:=ai.1 h1;rw[gB] at u;obtain⟨it,K,B,F,g⟩:=lT hz;have e:(X.map λ(i,x)=>(i,a.eval x)).toList=X.toList.map λp=>(p.1,a.eval p.2):=by simp
 cases d<;>simp only at j<;>(try exact j.elim)
 case struct G=>
  obtain⟨s,l⟩:=bw.1 j;obtain⟨cs,c,m⟩:=ai.1 l;cases au.1 m;obtain⟨b,I,C⟩:=rq s;obtain⟨f,g1,g2⟩:=rp (place':=(b.toArray[·]?)) (λi p o=>by grind) q c (eO (g M));refine⟨.agg f,λw=>run_build w Y _ f ?_,.agg g2.1 g2.2⟩;grind [Program.built]
 case array n el=>
  obtain⟨k,hk,l⟩:=ai.1 j;obtain⟨cs,c,m⟩:=ai.1 l;cases au.1 m;rw[sE] at hk;obtain⟨J,y,A⟩:=pe hk;obtain⟨f,g1,g2⟩:=rp (place':=λi=>some (i*k,k)) (λi p o=>by grind [au]) q c (eO (g M));refine⟨.agg f,λw=>run_build w Y _ f ?_,.agg g2.1 g2.2⟩;grind [Program.built]
theorem vR (z:List Z):∀n,(Lq n z).length=n*z.length
 | 0=>by show([]:List Z).length=_;simp
 | n+1=>by rw[yY,Zab,vR z n,ZaV];omega
theorem CL (z:List Z):∀(n i:Nat),i<n*z.length->(Lq n z)[i]?=z[i % z.length]?
 | 0,i,h=>by omega
 | n+1,i,h=>by
  rw[yY];by_cases hi:i<z.length
  ·grind [Nat.mod_eq_of_lt]
  ·rw[Zaz ω,CL z n _ (by grind)];congr 1
   conv=>rhs;rw[show i=(i-z.length)+z.length by omega,Nat.add_mod_right]
theorem O6 {a:Value} {n:Nat} (d:VR M v a) (hz:(c_ v).length=c) (hk:1<=c):LR M (Lq n (c_ v)) ((Array.range (n*c)).map λi=>a.cells[i % a.cells.size]!).toList:=by
 have b:=eO d;have da:a.cells.size=c:=by rw[<-hz,b.1,Zba]
 refine⟨by grind [vR],λi z g e k=>?_⟩;have hi:i<n*c:=by
  grind
 rw[CL _ _ _ (by grind),hz] at e;simp[hi] at k;rw[da] at k;have f:i % c<a.cells.size:=by grind
 rw[Zck a.cells (i % c) f] at k;refine b.2 (i % c) z g e ?_;grind
theorem uP (a:aY D) {row:List (AV D.E)} {x:D.E b} (h:(qi D b row).H x) (hl:LR M row d):LR M (D.bd b x) d:=by
 obtain⟨c,g⟩:=a.dec b row x (bz.1 h);refine⟨by rw[a.len,<-c];exact hl.1,λi v f e j=>?_⟩;have hi:i<row.length:=by rw[c,<-a.len b x];exact(Zam.1 e).1
 exact g i _ v (Zaf hi) e M f (hl.2 i _ f (Zaf hi) j)
theorem y5 (d:aY D):∀{n:Nat} {cs:List (AV D.E)} {xs:List (D.E b)} {c:List Value},(Fi D b (D.size b) n cs).H xs->LR M cs c->cs.length=n*D.size b->xs.length=n/\LR M (aW b xs) c
 | 0,cs,xs,c,h,hl,i=>by
  cases au.1 (show(C.ret []).H xs from h);grind [aW]
 | n+1,cs,xs,c,h,hl,i=>by
  obtain⟨row,a,h1⟩:=ai.1 (show(az (cN (tn (D.size b) cs)) λrow=>az (qi D b row) λx=>az (Fi D b (D.size b) n (nI (D.size b) cs)) λr=>.ret (x::r)).H xs from h);obtain⟨x,j,f⟩:=ai.1 h1;obtain⟨r,e,g⟩:=ai.1 f;cases au.1 g;obtain⟨_,rfl⟩:=iL (bz.1 a);rw[lQ] at e;obtain⟨i1,i2⟩:=y5 d e (hl.drop (D.size b)) (by grind);refine⟨by grind,?_⟩;have:=(uP d j (hl.take (D.size b))).app i2;grind [List.take_append_drop,aW]
theorem yk (W:aY D) {mu:Bool} (h:(yQ P D cd mu s φ Y b X.toList).H (v,s')) (hf:FR M φ a N) (hS:dQ M s.h.get w) (Q:bT M s.nx s'.nx):
  uN s M w ((Instr.buildSlice Y b (X.map λ(i,x)=>(i,a.eval x))).run P w) v s':=by
 obtain⟨d,K,h1⟩:=ai.1 h;obtain⟨e,parts,A⟩:=ai.1 h1;obtain⟨c,J,B⟩:=ai.1 A;obtain⟨z,hz,F⟩:=ai.1 B;obtain⟨q,G⟩:=bw.1 F;obtain⟨m,h6⟩:=bw.1 G;obtain⟨cs,O,h8⟩:=ai.1 h6;obtain⟨Z,h9⟩:=bw.1 h8;obtain⟨xs,S,y⟩:=ai.1 h9;rw[gB] at K;obtain⟨hk,l⟩:=rj J;obtain⟨it,z',R,V,U⟩:=lT hz;rw[aM,gL] at q;rw[cm] at m;have t:b*D.size c<=100000:=m;have L:d=.slice e:=by cases d<;>first | (cases au.1 parts;rfl) | exact parts.elim
 subst L;have len:(X.map λ(i,x)=>(i,a.eval x)).toList=X.toList.map λp=>(p.1,a.eval p.2):=by simp
 have T:=O6 (n:=b) (U M) q l;obtain⟨g,g1,g2⟩:=rp (place':=λi=>some (i*D.size c,D.size c)) (λi p hip=>by grind [au]) hf O T;have k:cs.length=b*D.size c:=by
  have:∀{u:List (Nat×Operand)} {cs r:List (AV D.E)},(vC P D (λi=>.ret (Nat.mul i (D.size c),D.size c)) φ u cs).H r->r.length=cs.length:=by
   intro u
   induction u with
   | nil=>intro cs r h;cases au.1 (show(C.ret cs).H r from h);rfl
   | cons p u ih=>
    intro cs r h;obtain⟨i,x⟩:=p;have h1:(aL (.ret (Nat.mul i (D.size c),D.size c)) λoff size=>az (ev P D φ x) λv=>bB (Nat.beq (jM (c_ v)) size) (az (cN (Cp off (c_ v) cs)) λcs=>vC P D (λi=>.ret (Nat.mul i (D.size c),D.size c)) φ u cs)).H r:=h;obtain⟨off,size,hpl,A⟩:=bk.1 h1;obtain⟨v,hv,B⟩:=ai.1 A;obtain⟨_,F⟩:=bw.1 B;obtain⟨cs2,o,G⟩:=ai.1 F;rw[ih G];exact(iM (bz.1 o)).2.1
  grind [vR]
 obtain⟨i1,i2⟩:=y5 W S g2 k;have I:g.size=b*D.size c:=by rw[<-Zba,<-g2.1,k]
 have hll:b<=b*D.size c:=Zcn _ l;obtain⟨M',k1,k2⟩:=mR (w:=w) (w':=w.alloc (.cells g e)) (C:=g) (fz:=(0,0)) (cap:=b) W y hS Q (by simp) (λc J=>Below.heap_alloc _ _ _ J) (by show(w.heap.push _)[w.heap.size]?=_;simp) (.inl rfl) rfl rfl rfl
  (λj u' hj=>by
   obtain⟨v2,q1,q2⟩:=i2.get hj;exact⟨v2,by grind,q2⟩) I ω ω
 refine⟨M',.slice (some ⟨w.heap.size,0,none⟩) b b,w.alloc (.cells g e),?_,by grind,k2⟩;have f:¬(b*D.size c>2 ^ 24):=ω;have hnr:(do pure (Value.slice (some (<-Go.newRow e g)) b b):Sem Value).run P w=.ok (.slice (some ⟨w.heap.size,0,none⟩) b b) (w.alloc (.cells g e)):=by
  rfl
 by_cases h0:b*D.size c=0
 ·rw[h0] at g1;simp only[Instr.buildSlice,Zzd,Zza K,Zzb,cI hk,Zaa f,Zac h0,Zzc,len];grind
 ·simp only[Instr.buildSlice,Zzd,Zza K,Zzb,cI hk,Zaa f,Zaa h0,Zzc,rf R V,len,g1];rfl
end
section
variable {P:Program} {D:Data} {cd:TypeId->Option Nat} {M M':Pm D} {φ:T (AV D.E)} {a:Act} {N:Nat} {w w':World} {H:Hp D} {s s':St D.E}
variable {v c U:AV D.E} {b I:Value} {e Z:TypeId} {m o:Nat} {G:Array Value} {Y:Int} {X:Bool} {l:List (AV D.E)} {F:Array TypeId} {k:IntKind} {W:List UInt8} {V:List Value} {d:TypeDesc}
theorem ia (h:(cA v).H (k,Y)) (r:VR M v b):b=.int k Y/\iY k Y:=by
 cases r<;>simp only[cA] at h<;>(try exact h.elim)
 all_goals grind [au]
theorem FA (h:(asN v).H m) (r:VR M v b):∃k,b=.int k (m:Int):=by
 cases r<;>simp only[asN] at h<;>(try exact h.elim)
 case num k n a=>
  cases n with
  | negSucc n=>exact h.elim
  | ofNat n=>cases au.1 h;exact⟨k,rfl⟩
theorem FB {c:Bool} (h:(x_ v).H (X,c)) (r:VR M v b):b=.bool X:=by
 cases r<;>simp only[x_] at h<;>(try exact h.elim)
 all_goals grind [au]
theorem lW (h:(gz v).H W) (r:VR M v b):b=.string ⟨⟨W⟩⟩/\W.length<=9223372036854775807:=by
 cases r<;>simp only[gz] at h<;>(try exact h.elim);grind [au]
def lX (h:(asAgg v).H l) (r:VR M v b):∃a:Array Value,b=.agg a/\LR M l a.toList:=by
 cases r<;>simp only[asAgg] at h<;>(try exact h.elim)
 case agg hl c=>cases au.1 h;exact⟨_,rfl,hl,c⟩
def O7 (h:(Oq v).H l) (r:VR M v b):∃a:Array Value,b=.tuple a/\LR M l a.toList:=by
 cases r<;>simp only[Oq] at h<;>(try exact h.elim)
 case tuple hl c=>cases au.1 h;exact⟨_,rfl,hl,c⟩
theorem y6 (b:aY D) {x:D.E m} (hl:LR M (D.bd m x) V) (n:Nat):LR M (aW m (List.replicate n x)) (List.replicate n V).flatten:=by
 induction n with
 | zero=>exact .nil
 | succ n d=>
  rw[ Zc9];have:=hl.app d;assumption
theorem oo (z:Array Value) (n:Nat):(Builtin.zeroCells z n).toList=(List.replicate n z.toList).flatten:=by
 by_cases hz:z.size=0
 ·have:=Zap (by assumption);rw[this];simp[Builtin.zeroCells,hz]
 ·apply Zb6;intro i;have key:∀n i,(List.replicate n z.toList).flatten[i]?=if i<n*z.size then z.toList[i % z.size]? else none:=by
   intro n
   induction n with
   | zero=>intro i;simp
   | succ n a=>
    intro i;rw[Zc9,Zcf];by_cases hi:i<z.size
    ·grind [Nat.mod_eq_of_lt]
    ·rw[Zaz (by grind)];have e:(i-z.toList.length) % z.size=i % z.size:=by
      rw[Zba]
      conv=>rhs;rw[show i=(i-z.size)+z.size by omega,Nat.add_mod_right]
     grind
  grind [Nat.mod_lt,Builtin.zeroCells]
theorem A7 (hD:aY D) {l v:AV D.E} (h:(Cu P D cd X s e l c).H (v,s')) (hl:VR M l b) (hc:VR M c I) (hS:dQ M s.h.get w) (hf:bT M s.nx s'.nx):uN s M w ((Instr.makeSlice e b I).run P w) v s':=by
 have⟨d,hd,h1⟩:=ai.1 h;have⟨t,he,h2⟩:=ai.1 h1;have⟨kl,n,hn,h3⟩:=bk.1 h2;have⟨hkl,W⟩:=bw.1 h3;have⟨kc,m,hm,h4⟩:=bk.1 W;have⟨hkc,mu⟩:=bw.1 h4;have⟨cc,hcc,h5⟩:=ai.1 mu;obtain rfl:=fE.1 hkl;obtain rfl:=fE.1 hkc;have⟨l',N',h6⟩:=ai.1 h5;have⟨z,hz,h7⟩:=ai.1 h6;have⟨O,h8⟩:=bw.1 h7;have⟨hb64,h9⟩:=bw.1 h8;have⟨x,hx,S⟩:=ai.1 h9;have⟨hn0,T⟩:=cT.1 S;have⟨hnm,U⟩:=cT.1 T;have⟨G,V⟩:=cT.1 U;rw[gB] at hd;have⟨da,hk1⟩:=rj hcc;obtain⟨rfl,q⟩:=ia hn hl;obtain⟨rfl,hmr⟩:=ia hm hc;have Qsw:0<=n:=ZaH hn0;have hnm':=ZaH hnm;obtain⟨g,rfl⟩:∃k:Nat,n=k:=⟨n.toNat,ω⟩;obtain⟨a,rfl⟩:∃k:Nat,m=k:=⟨m.toNat,ω⟩;have QrM:=uO G;have F:P.underlying e=some (.slice t):=by cases d<;>first | (cases au.1 he;exact hd) | exact he.elim
 have⟨it,f,A,hzz,Q⟩:=lT hz;have⟨i,hi,hib⟩:=yZ (bz.1 N');rw[A] at hi;cases hi;rw[aM,gL] at O;have hmax:a<=9223372036854775807:=by
  grind [cE,sw]
 have hlr:=uP hD hx (eO (Q M));have y:f.cells.size=D.size cc:=by rw[<-Zba,<-(eO (Q M)).1,O]
 have Z:(Builtin.zeroCells f.cells a).size=a*D.size cc:=by rw[om,y]
 have Y:LR M (aW cc (List.replicate a x)) (Builtin.zeroCells f.cells a).toList:=by
  grind [oo,y6]
 have c':∀(k:Nat),k<=a->∀(i:Nat) (u:AV D.E),(aW cc (List.replicate k x))[i]?=some u->∃u',(Builtin.zeroCells f.cells a)[i]?=some u'/\VR M u u':=λk hk i u hu=>by
  have e1:aW cc (List.replicate a x)=aW cc (List.replicate k x)++aW cc (List.replicate (a-k) x):=by
   rw[<-fx,List.replicate_append_replicate,show k+(a-k)=a by omega]
  have⟨v',q1,q2⟩:=Y.get (i:=i) (v:=u) (by grind);grind
 have N:IntKind.i64.wrap ↑g=↑g:=IntWalk.i64_in _ ω;have L:IntKind.i64.wrap ↑a=↑a:=IntWalk.i64_in _ ω;have K:(typeInfo t).run P w=.ok it w:=by simp[typeInfo,A]
 have QrN:((l':Int)*↑a)=((l'*a:Nat):Int):=by simp
 have QrO:a*l'=l'*a:=Zb9 _ _;have o:((decide ((a:Int)<0)||decide ((l':Int)*↑a>2 ^ 48))||decide ((g:Int)<0)||decide ((g:Int)>↑a))=false:=by
  grind
 have B:(askRoom (a*l')).run P w=.ok () w:=by
  simp_all
 have J:(Instr.makeSlice e (.int .i64 ↑g) (.int .i64 ↑a)).run P w=.ok (.slice (some ⟨w.heap.size,0,none⟩) g a) (w.alloc (.cells (Builtin.zeroCells f.cells a) t)):=by
  subst hib;have q:(Go.newRow t (Builtin.zeroCells f.cells a)).run P w=.ok ⟨w.heap.size,0,none⟩ (w.alloc (.cells (Builtin.zeroCells f.cells a) t)):=by
   rfl
  by_cases h0:a*D.size cc=0
  ·have r:Builtin.zeroCells f.cells a=#[]:=by grind
   rw[r] at q ⊢;simp only[Instr.makeSlice,Zzd,Zza F,Zzb,Go.asInt,asIntOf,Zzc,K,N,L,o,ZaE,Za0,Zad,cI da,h0];simp[Array.range_zero',q]
  ·have e2:(Array.range (a*D.size cc)).map (λi=>f.cells[i % f.cells.size]!)=Builtin.zeroCells f.cells a:=by simp[Builtin.zeroCells,y]
   simp only[Instr.makeSlice,Zzd,Zza F,Zzb,Go.asInt,asIntOf,Zzc,K,N,L,o,ZaE,Za0,Zad,B,cI da,Zaa h0,rf A hzz,e2,q]
 have go:∀(R:Bool) (k:Nat),(newRow D R s cc (List.replicate k x) t).H (v,s')->k<=a->k=g->uN s M w ((Instr.makeSlice e (.int .i64 ↑g) (.int .i64 ↑a)).run P w) v s':=λR k hk hkm hkn=>by
  have⟨M',k1,k2⟩:=mR (w:=w) (w':=w.alloc (.cells (Builtin.zeroCells f.cells a) t)) (C:=Builtin.zeroCells f.cells a) (fz:=(0,0)) (cap:=a) hD hk hS hf (by simp) (λc hc=>Below.heap_alloc _ _ _ hc) (by show(w.heap.push _)[w.heap.size]?=_;simp) (.inl rfl) rfl rfl rfl
   (c' k hkm) Z (by grind) (by simp;omega)
  refine⟨M',_,_,J,?_,k2⟩;grind
 rcases gA.1 V with⟨r,p⟩ | ⟨_,p⟩
 ·have hzero:g=0:=by
   rw[h_] at r;have j:=r.1;unfold QeG at j;split at j
   ·rename_i k0 n0
    have:=ia hn hl;cases au.1 hn;rw[ql] at j;simp[zI] at j;omega
   ·cases j
  exact go false 0 p (Zaj _) hzero.symm
 ·have e3:kO ↑g x=List.replicate g x:=by rfl
  rw[e3] at p;exact go true g p ω rfl
theorem y7 {C:Array Value} (h:(OE D s e l).H (v,s')) (f:dQ M s.h.get w) (g:bT M s.nx s'.nx) (hl:LR M l C.toList):
  uN s M w ((do pure (Value.pointer (some (<-Go.newRow e C))):Sem Value).run P w) v s':=by
 have⟨_,h0⟩:=bw.1 h;have⟨b,cs,h1,d⟩:=bk.1 h0;cases au.1 d;obtain⟨rfl,g1,g2⟩:=qb h1;have a:=g _ (Zah _) ω
 let mi:MI:=⟨w.heap.size,0,C.size,0,0,true⟩
 have c:=cP.alloc (o:=.cells l e false) (ob:=.cells C e) (mi:=mi) f a rfl ⟨⟨rfl,rfl,by show C.size=l.length;rw[hl.1,Zba]⟩,C,(0,0),by show(w.heap.push _)[w.heap.size]?=_;simp,rfl,by show 0+l.length<=C.size;rw[hl.1,Zba];omega,λi u hu=>by
  have⟨j,k,a2⟩:=hl.get hu;exact⟨j,by grind,a2.mono (Pm.qk (mi:=mi) a)⟩,λ_=>.inl rfl⟩
 refine⟨M.add s.nx mi,.pointer (some ⟨w.heap.size,0,none⟩),_,by rfl,?_,by rw[g1,g2];exact c⟩;exact VR.ptr (mi:=mi) (o:=0) (by simp[Pm.add]) rfl
theorem kY (S:aY D) {t:TypeId} {n k:Nat} {it:TypeInfo} (h:(uJ D s m (o:Int) (n:Int) k (c_ c)).H (v,s')) (V:At M m o n I) (j:dQ M s.h.get w)
  (ht:P.underlying e=some (.slice t)) (r:P.info? t=some it) (x:it.zero=some b) (hzv:VR M c b) (h0:F[0]?=some e) (h1:G[0]?=some I):uN s M w ((Builtin.clear_ F Z G).run P w) v s':=by
 have d:VR M (undef:AV D.E) (.tuple #[]):=.tuple rfl (λi v v' t=>by cases t);have⟨⟨z,xs,e2,ro⟩,T,N⟩:=ai.1 h;have l:=i_ T;have⟨ty,O⟩:=bw.1 N;have⟨_,Q⟩:=bw.1 O;have⟨y,hy,B⟩:=ai.1 Q;cases ro with
 | true=>exact B.elim
 | false=>
  have⟨s2,g,R⟩:=ai.1 (B);cases au.1 R;have⟨g1,g2⟩:=ka g;have⟨mi,C,A⟩:=V;have⟨N8,f,hl,p,U⟩:=j.obj m _ l;rw[C] at f;cases f;simp only at hl p l;have K:kO ↑n y=List.replicate n y:=by rfl
  have L:(List.replicate n y).take n=List.replicate n y:=ZaA (by simp);rw[K,CJ,L] at g1;have u:LR M (aW z (List.replicate n y)) (Builtin.zeroCells b.cells n).toList:=by
   grind [oo,y6,uP,eO]
  have a:n=0->s'.h.get=s.h.get:=λW=>by
   rw[g1];funext q;unfold iI;simp_all
  rcases A with⟨Y,X,W,cap,rfl⟩ | ⟨rfl,J,cap,rfl⟩
  ·have⟨q1,q2⟩:=Jc (P:=P) S l C Y j u (o:=o) (by grind) s.nx;cases n with
   | zero=>
    refine⟨M,.tuple #[],w,?_,d,by rw[a rfl,g2];exact .refl j _⟩;simp[Builtin.clear_,h0,h1,Zza ht]
   | succ n=>
    refine⟨M,.tuple #[],_,?_,d,by rw[g1,g2];exact q2⟩;simp only[Builtin.clear_,h0,h1,Zzd,Zzb,Zza ht,rf r x];rw[q1];rfl
  ·refine⟨M,.tuple #[],w,?_,d,by rw[a rfl,g2];exact .refl j _⟩;cases J<;>simp[Builtin.clear_,h0,h1,Zza ht]
theorem O8 (h:VR M (.own m o Y) b):∃k:Nat,Y=k/\At M m 0 k b:=by
 cases h with
 | own h hk c a e g ht=>exact⟨_,a,_,h,.inl ⟨c,ω,e,_,by rw[ZbS,Zbn]⟩⟩
 | lE h hk c a hl=>exact⟨0,a,_,h,.inr ⟨rfl,_,_,rfl⟩⟩
theorem O9 (h:VR M (.pre m o Y) b):∃k:Nat,Y=k/\At M m 0 k b:=by
 cases h with
 | pre h hk c a g hl f ht=>exact⟨_,a,_,h,.inl ⟨c,ω,ω,_,by rw[ZbS,Zbn]⟩⟩
 | og h hk c a hl=>exact⟨0,a,_,h,.inr ⟨rfl,_,_,rfl⟩⟩
def CM (q:aY D) {ty:TypeId} (h:(IM P D s e v).H (c,s')) (r:VR M v b) (m:dQ M s.h.get w) (h0:F[0]?=some e) (h1:G[0]?=some b):
  uN s M w ((Builtin.clear_ F ty G).run P w) c s':=by
 have⟨I,p,J⟩:=ai.1 h;have⟨t,A,K⟩:=ai.1 J;have⟨z,hz,L⟩:=ai.1 K;have⟨k,hk,g⟩:=ai.1 L;rw[gB] at p;have a:P.underlying e=some (.slice t):=by cases I<;>first | (cases au.1 A;exact p) | exact A.elim
 have⟨it,T,x,f,d⟩:=lT hz;cases v<;>simp only at g<;>(try exact g.elim)
 case dd=>
  cases au.1 g;cases r;exact uN.pure m (v':=.tuple #[]) (by simp[Builtin.clear_,h0,h1,Zza a]) (.tuple rfl (λi c v' t=>by cases t))
 case own C B n=>
  obtain⟨k,rfl,j⟩:=O8 r;exact kY q g j m a x f (d M) h0 h1
 case pre C B n=>
  obtain⟨k,rfl,j⟩:=O9 r;exact kY q g j m a x f (d M) h0 h1
 case part C B o n=>
  cases r with
  | part l u O y N hl S R=>
   subst y;obtain⟨Q,rfl⟩:∃k:Nat,o=k:=⟨o.toNat,ω⟩;rw[Zad] at hl;exact kY q g ⟨_,l,.inl ⟨O,hl,ω,_,by rfl⟩⟩ m a x f (d M) h0 h1
  | jf l u y N=>
   subst y;obtain⟨Q,rfl⟩:∃k:Nat,o=k:=⟨o.toNat,ω⟩;exact kY (n:=0) q g ⟨_,l,.inr ⟨rfl,_,_,rfl⟩⟩ m a x f (d M) h0 h1
theorem tx (d:aY D) {xs:List (D.E D.bc)} (h:LR M (aW D.bc xs) V):V=(D.x9 xs).map λb=>Value.int .u8 b.toNat:=by
 rw[qm d] at h;apply Zb6;intro i;cases e:(D.x9 xs)[i]? with
 | none=>
  have hl:=h.1;grind
 | some b=>
  have⟨f,h1,c⟩:=h.get (i:=i) (v:=.int .u8 b.toNat) (by grind);rw[h1,Zbk,e];cases c;rfl
theorem vS:∀{cs:List (AV D.E)} {i:Nat} {r:List (AV D.E)} {a:List Value},(IH D W cs i).H r->LR M cs a->
  LR M r (((W.drop i).take cs.length).map (λb=>Value.int .u8 b.toNat)++a.drop ((W.drop i).take cs.length).length)
 | [],i,r,a,h,hl=>by
  cases au.1 (h);assumption
 | v::cs,i,r,a,h,hl=>by
  have⟨k,n,p,h0⟩:=bk.1 (show(aL (cA v) λk n=>bB (AI k .u8) (az (IH D W cs (i+1)) λr=>.ret (.int .u8 (cn (ay ↑i (dL W)) (sat W ↑i) n)::r))).H r from h);have⟨hk,h1⟩:=bw.1 h0;obtain rfl:=fE.1 hk;have⟨q,o,m⟩:=ai.1 h1;cases au.1 m;obtain⟨s,rest,rfl,g,c⟩:=hl.bD;have d:=vS o c;obtain⟨rfl,f⟩:=ia p g;by_cases hi:i<W.length
  ·have e:(W.drop i).take (cs.length+1)=W[i]::(W.drop (i+1)).take cs.length:=by
    grind [List.drop_eq_getElem_cons]
   rw[Zae,e,Zae,Zc8];refine .cons ?_ d;have e2:cn (ay ↑i (dL W)) (sat W ↑i) n=(W[i].toNat:Int):=by
    grind [ay,dL,cn,sat]
   rw[e2];exact .int (re _)
  ·have e:W.drop i=[]:=Zbu ω;have j:W.drop (i+1)=[]:=Zbu ω;rw[j] at d;rw[e];simp only[Zdl,ZbQ] at d ⊢;refine .cons ?_ d;have e2:cn (ay ↑i (dL W)) (sat W ↑i) n=n:=by
    grind [ay,dL,cn]
   rw[e2];exact .int f
theorem mX (h:(sy D s m o []).H s'):s'.h.get=s.h.get/\s'.nx=s.nx:=by
 have⟨cs,e,hw,c⟩:=bk.1 h;have⟨a,f,d⟩:=ai.1 c;have⟨q1,g⟩:=ka d;have⟨p1,p2,p3⟩:=iM (bz.1 f);have i:=A5 hw;have e:a=cs:=by
  apply Zb6;grind
 subst e;refine⟨?_,g⟩;rw[q1];grind [iI]
theorem Ly (J:aY D) {ty:TypeId} (h:(ϰ P D cd s e v c).H (U,s')) (hd:VR M v b) (hx:VR M c I) (vs:dQ M s.h.get w) (h0:F[0]?=some e) (h1:G[0]?=some b) (Q:G[1]?=some I):
  uN s M w ((Builtin.copy_ F ty G).run P w) U s':=by
 have⟨dt,hdt,h3⟩:=ai.1 h;have⟨t,he,h4⟩:=ai.1 h3;have⟨x,hc,d⟩:=ai.1 h4;rw[gB] at hdt;have f:P.underlying e=some (.slice t):=by cases dt<;>first | (cases au.1 he;exact hdt) | exact he.elim
 have⟨da,_⟩:=rj hc;cases v<;>simp only at d<;>(try exact d.elim)
 case own d' k0 n=>
  obtain⟨k,rfl,V⟩:=O8 hd;exact mW J d V hx vs f da h0 h1 Q
 case pre d' k0 n=>
  obtain⟨k,rfl,V⟩:=O9 hd;exact mW J d V hx vs f da h0 h1 Q
 case part d' k0 o n=>
  cases hd with
  | part j hke hr hn ho hl hm hc=>
   subst hn;obtain⟨o',rfl⟩:∃k:Nat,o=k:=⟨o.toNat,ω⟩;rw[Zad] at hl;exact mW J d ⟨_,j,.inl ⟨hr,hl,ω,_,by rfl⟩⟩ hx vs f da h0 h1 Q
  | jf j hke hn ho=>
   subst hn;obtain⟨o',rfl⟩:∃k:Nat,o=k:=⟨o.toNat,ω⟩;exact mW (n:=0) J d ⟨_,j,.inr ⟨rfl,_,_,rfl⟩⟩ hx vs f da h0 h1 Q
 case sub d' o n=>
  have⟨hcb,h6⟩:=bw.1 d;rw[aM] at hcb;subst hcb;have⟨B,h7⟩:=bw.1 h6;have B:=cm.1 B;rw[J.b1] at da;have hvn:∀m:Nat,m<=9223372036854775807->VR M (.int .i64 ↑m:AV D.E) (goInt m):=λm hm=>.int (iZ hm)
  by_cases hsub:∃b' o' ts,c=.sub b' o' ts
  ·obtain⟨b',o',ts,rfl⟩:=hsub;have⟨cs,X,h8⟩:=ai.1 h7;have⟨l,hl,h9⟩:=ai.1 h8;have⟨z,R⟩:=bw.1 h9;have⟨s2,p,S⟩:=ai.1 R;have⟨cv,Y,T⟩:=ai.1 S;cases au.1 T;have Y:=rb.1 (bz.1 Y);subst Y;obtain⟨N,rfl⟩:=iL (bz.1 hl);rw[lQ] at p z N;rw[A3] at p z N ⊢;have hmn:Nat.min ts n=min ts n:=rfl
   
   have Z:∃y,LR M ((cs.drop o').take (min ts n)) y/\y.length=min ts n/\(Builtin.firstCells 1 (min ts n) I).run P w=.ok y.toArray w/\(∀w2:World,(Builtin.lenOf I).run P w2=.ok ts w2):=by
    cases hx with
    | sub j hr hcc _=>
     have⟨e2,ro,hb⟩:=pf X;have⟨N8,x',_,W⟩:=vs.obj b' _ hb;rw[j] at x';cases x';have⟨y,q1,q2,q3⟩:=((W.rd.drop o').take (min ts n)).run (P:=P);have hle:((cs.drop o').take (min ts n)).length=min ts n:=by grind
     rw[hle] at q2 q3;exact⟨y,q1,q2,by grind [Builtin.firstCells],λw2=>by rfl⟩
    | oh=>
     refine⟨[],?_,by simp,by rfl,λw2=>by rfl⟩;simpa using LR.nil
   have⟨y,q1,q2,q3,q4⟩:=Z;have hb64:min ts n<=9223372036854775807:=ω;cases hd with
   | sub j hr hcc _=>
    have⟨r1,r2⟩:=vO (P:=P) p j vs q1 z;refine⟨M,_,_,?_,.num (iZ hb64),r2⟩;simp only[Builtin.copy_,h0,h1,Q,Zzd,Zzb,Zza f,q4,cI da,q3];rw[r1];rfl
   | oh=>
    have hz:min ts 0=0:=ω;rw[hz] at p q2 q3 ⊢;have hv0:=Zap q2;subst hv0;refine⟨M,_,w,?_,.num (iZ (Zaj _)),by rw[(mX p).1,(mX p).2];exact .refl vs _⟩;have Qca:Nat.min ts 0=0:=by assumption
    simp[Builtin.copy_,h0,h1,Q,Zza f,q4,cI da,q3,storeCells,goInt]
  ·have h8:(az (aU D s D.bc c) λg=>az (o9 s d') λcs=>az (cN (tn n (nI o cs))) λl=>az (IH D (D.x9 g) l (nat_lit 0)) λl=>az (sy D s d' o l) λs=>.ret (.int .i64 (fK (.ofNat n) (dL (D.x9 g))),s)).H (U,s'):=by
    grind
   have⟨g,hys,h9⟩:=ai.1 h8;have⟨cs,X,R⟩:=ai.1 h9;have⟨l,hl,S⟩:=ai.1 R;have⟨r,K,T⟩:=ai.1 S;have⟨s2,p,h13⟩:=ai.1 T;cases au.1 h13;obtain⟨N,rfl⟩:=iL (bz.1 hl);rw[lQ] at K N;have⟨news,L⟩:=mS (P:=P) J hys hx vs;have hbl:=J.bl g;have hmin:Nat.min g.length n<=g.length:=ZdI _ _;have a:=L.cells (Nat.min g.length n) hmin w rfl;rw[J.b1,Zb8] at a;have hmn:Nat.min g.length n=min g.length n:=rfl;have O:VR M (.int .i64 (fK (Int.ofNat n) (dL (D.x9 g))):AV D.E) (goInt (Nat.min g.length n)):=by
    grind [dL,Jd]
   cases hd with
   | @sub _ _ _ cap0 mi j hr hcc _=>
    have⟨cs0,e0,hw0,k1⟩:=bk.1 p;have⟨cs1,hp1,k2⟩:=ai.1 k1;have⟨g1,g2⟩:=ka k2;have hb:=A5 hw0;have⟨e3,ro3,hb3⟩:=pf X;rw[hb] at hb3;cases hb3;have⟨N8,x',hr3,W⟩:=vs.obj d' _ hb;rw[j] at x';cases x';have⟨C,fz,c1,c2,c3,c4,c5⟩:=W;have⟨p1,p2,p3⟩:=iM (bz.1 hp1);have⟨old,hold,hc0⟩:=((N7.rd ⟨C,fz,c1,c2,c3,c4,c5⟩).drop o).take n |>.list
    have hln:((cs.drop o).take n).length=n:=by grind
    have A:=vS K hold;rw[ZbQ,hln] at A;have htk:(D.x9 g).take n=(D.x9 g).take (Nat.min g.length n):=by
     grind
    have hvs:((D.x9 g).take n).map (λd'=>Value.int .u8 d'.toNat)=news.take (Nat.min g.length n):=by rw[htk,List.map_take,(tx J L.lr)]
    rw[hvs] at A;have hvl:(news.take (Nat.min g.length n)).length=Nat.min g.length n:=by
     grind
    have QkY:((D.x9 g).take n).length=Nat.min g.length n:=by
     grind
    rw[QkY] at A;have z:∀u∈news.take (Nat.min g.length n),u.oneCell':=by
     rw[<-hvs];intro u hu;obtain⟨q,_,rfl⟩:=ZcL.1 hu;rfl
    generalize news.take (Nat.min g.length n)=y at A a hvl z;have hk:Nat.min g.length n<=n:=ZcW _ _;generalize hkk:Nat.min g.length n=k at A a hvl hk O;have hrl:r.length=n:=by
     have h20:r.length=y.length+(old.length-k):=by rw[A.1];simp
     have h21:=hold.1;omega
    have hol:old.length=n:=by rw[<-hold.1,hln]
    have⟨d1,d2,d3⟩:=ri (o1:=.cells cs1 e0 false) (q:=mi.sh+o) (vs':=y) vs hb rfl j hr c1 c2 ω (c5 rfl) (λ_=>trivial) (λC' w1 w2 w3=>⟨⟨hr3.1,hr3.2.1,ω⟩,C',fz,w1,w2.trans c2,ω,λi u hi=>by
     rw[p3 i] at hi;rw[w3];by_cases hc:o<=i/\i<o+r.length
     ·rw[Zac hc] at hi;have⟨v',a1,a2⟩:=A.get hi;by_cases hik:i-o<k
      ·rw[ show mi.sh+i-(mi.sh+o)=i-o by omega];grind
      ·rw[Zaa ω];rw[Zaz ω,ZbX,hvl,show k+(i-o-k)=i-o by omega] at a1;have:=hc0 (i-o) v' a1;refine⟨v',?_,a2⟩;simp only[World.cell?] at this;grind
     ·rw[Zaa hc] at hi;rw[Zaa ω];exact c4 i u hi,c5⟩) s.nx
    refine⟨M,_,_,?_,O,by rw[g1,g2];exact d3⟩;simp only[Builtin.copy_,h0,h1,Q,Zzd,Zzb,Zza f,L.len,cI da,hkk,a];rw[(run_storeCells_cells (P:=P) mi.bV (mi.sh+o) y 0 w (by assumption) (by assumption) z)];rfl
   | oh=>
    have hz:Nat.min g.length 0=0:=ω;rw[hz] at a O;rw[ZcA] at a;have QkZ:r=[]:=by
     rw[ZcA] at K;cases au.1 (K);rfl
    subst QkZ;refine⟨M,_,w,?_,O,by rw[(mX p).1,(mX p).2];exact .refl vs _⟩;simp[Builtin.copy_,h0,h1,Q,Zza f,L.len,cI da,a,storeCells]
theorem FC (h:dU8 d):d=.int .u8:=by
 cases d<;>simp only[dU8] at h<;>(try cases h);grind
theorem tz {a:TypeDesc} (h:(uI D a Y X).H v) (hs:P.underlying e=some d) (b:P.underlying Z=some a):∃src,(∀w,(convert e Z (.int k Y)).run P w=.ok src w)/\VR M v src:=by
 cases a<;>simp only[uI] at h<;>(try exact h.elim)
 case int f=>
  refine⟨.int f (f.wrap Y),λw=>by simp[convert,Zza hs,Zza b,Conv.intToInt],?_⟩;cases X with
  | true=>
   have⟨c,g,h1⟩:=ai.1 (h);cases au.1 h1;have:=bz.1 g;rw[fO,jg] at this;subst this;exact .num (cB _ _)
  | false=>cases au.1 (h);exact .int (cB _ _)
 case string=>
  cases au.1 h;refine⟨.string (Utf8.encode Y),λw=>by simp[convert,Zza hs,Zza b,Conv.intToString],?_⟩;have hl:(Utf8.encode Y).data.toList.length<=9223372036854775807:=by
   grind [Utf8.encode]
  exact .str hl
theorem tA:∀(l':List Value) (r:List UInt8) (s0:ByteArray),l'.length=r.length->(∀(i:Nat) (v:Value),l'[i]?=some v->∃m:Nat,v=.int .u8 m/\r[i]?=some (UInt8.ofNat m))->∀w,
  ((forIn l' s0 λc (s:ByteArray)=>(match c with
   | .int .u8 n=>Pure.pure (ForInStep.yield (s.push (UInt8.ofNat n.toNat)))
   | _=>do
    stuck "bytesToString: byte expected"
    Pure.pure (ForInStep.yield s):Sem (ForInStep ByteArray)):Sem ByteArray)).run P w=.ok ⟨⟨s0.data.toList++r⟩⟩ w
 | [],r,s0,hl,_,w=>by
  have:r=[]:=Zap (by grind);simp_all
 | v::l',r,s0,hl,h,w=>by
  cases r with
  | nil=>simp at hl
  | cons b r=>
   obtain⟨m,rfl,e⟩:=h 0 v rfl;have eb:b=UInt8.ofNat m:=by grind
   have ih:=tA l' r (s0.push (UInt8.ofNat m)) (by grind) (λi v hv=>h (i+1) v (by assumption)) w;simp_all
theorem FD {xs:List (D.E o)} {a:MI} {H:Hp D} {r:Nat×Nat} (b:dQ M H w) (n:H m=some (.arr o xs e false)) (i:M.pl m=some a) (k:a.real) (h1:a.iN=1) (t:w.heap[a.bV]?=some (.cells G e r)) (da:G.size=a.p_) (lo:Nat):
  cP H M w H M (w.freeze ⟨a.bV,G.size,none⟩ 1) lo lo:=by
 have⟨u,g,hl,q,p⟩:=b.obj m _ n;rw[i] at g;cases g;have⟨A,s,k1,k2,k3,k4,k5⟩:=p k;rw[t] at k1;cases k1;have hk:∀x,x≠a.bV->(w.freeze ⟨a.bV,G.size,none⟩ 1).heap[x]?=w.heap[x]?:=λx B=>by
  grind [World.freeze]
 have hw:∃d:Nat×Nat,(w.freeze ⟨a.bV,G.size,none⟩ 1).heap[a.bV]?=some (.cells G e d)/\a.p_<=d.1:=by
  grind [World.freeze]
 have⟨d,y,z⟩:=hw;have f:∀j,M.sg a.bV j=none:=λj=>b.sep m _ a n rfl i k j trivial
 have:=cP.upon (M1:=M) (sg1:=M.sg) (b0:=m) (b1:=m) (o1:=.arr o xs e false) (A2:=a) (w':=w.freeze ⟨a.bV,G.size,none⟩ 1) (lo:=lo) (hi:=lo) b n rfl i k k rfl (by
   cases M with
   | mk pl sg=>
    congr 1;funext o;by_cases e:o=m
    ·rw[Zac e,e];exact i
    ·rw[Zaa e]) (.inl ⟨rfl,rfl,rfl⟩) (λ_ _ _ h=>h) (λ_ _ h=>.inl h) (by grind [World.freeze]) hk (by rfl) (by rfl) (by rfl)
  ⟨hl,q,λ_=>⟨G,d,y,da,k3,k4,λ_=>.inr ⟨z,h1⟩⟩⟩
  (λc v h=>by grind) (λ_ j _=>f j) (λo xs e h=>by cases h)
 have e2:(λl=>if l=m then some (.arr o xs e false) else if l=m then none else H l)=H:=by
  grind
 grind
theorem FE (p:aY D) (h:(OD P D cd X s e Z v).H (c,s')) (J:VR M v b) (L:dQ M s.h.get w) (hf:bT M s.nx s'.nx):uN s M w ((convert e Z b).run P w) c s':=by
 have⟨ds,j,h1⟩:=ai.1 h;have⟨dst,g,m⟩:=ai.1 h1;rw[gB] at j g
 
 have sl:∀{y:AV D.E},y=v->(Fj P D cd s ds dst y).H (c,s')->(∀l,b≠.string l)->uN s M w ((convert e Z b).run P w) c s':=by
  intro y hy o hns;subst hy;have⟨src,R,A⟩:=ai.1 o;have U:P.underlying e=some (.slice src):=by cases ds<;>first | (cases au.1 R;exact j) | exact R.elim
  cases dst<;>simp only at A<;>(try exact A.elim)
  case string=>
   have⟨de,f,N⟩:=ai.1 A;have⟨hu,O⟩:=bw.1 N;have⟨x,Q,h7⟩:=ai.1 O;have⟨hcb,h8⟩:=bw.1 h7;have⟨t,hys,h9⟩:=ai.1 h8;cases au.1 h9;rw[gB,FC hu] at f;have⟨news,r⟩:=mS (P:=P) p hys J L;have F:=tx p r.lr;have hbl:=p.bl t;have d:=r.cells t.length (Zah _) w rfl;have hnl:news.length=t.length:=by grind
   rw[p.b1,Zb8,<-hnl,ZaM] at d;have hlen:=r.len w;have q:=tA (P:=P) news (D.x9 t) ByteArray.empty ω (λi c W=>by
    rw[F,Zbk] at W;cases hq:(D.x9 t)[i]? with
    | none=>rw[hq] at W;cases W
    | some Y=>rw[hq] at W;cases W;exact⟨Y.toNat,rfl,by simp⟩) w
   have K:(D.x9 t).length<=9223372036854775807:=by
    rw[hbl];exact r.max
   refine uN.pure L (v':=.string ⟨⟨D.x9 t⟩⟩) ?_ (.str K)
   
   cases b<;>simp only[Builtin.lenOf] at hlen<;>(try (simp at hlen;done))
   case string l=>exact absurd rfl (hns l)
   case slice ad n cap=>
    have hn:n=t.length:=by simp_all
    subst hn;cases ad with
    | none=>
     simp only[Builtin.firstCells,Zzc,Result.ok.injEq] at d;have h20:news=[]:=by
      grind
     have h21:D.x9 t=[]:=by
      grind
     rw[h21];simp[convert,Zza U,Zza g,Zza f];rfl
    | some a0=>
     simp only[Builtin.firstCells] at d;simp only[convert,Zza U,Zza g,Zza f,Conv.bytesToString,Zzd,Zzb];simp_all
 cases v<;>simp only at m<;>(try (refine sl rfl m (λl src=>?_);subst src;cases J;done))
 case own Y k n=>
  rcases gA.1 m with⟨_,o⟩ | ⟨_,o⟩
  ·have⟨e0,S,A⟩:=ai.1 o;have⟨src,R,N⟩:=ai.1 A;have⟨G,O⟩:=bw.1 N;have⟨hk1,h7⟩:=bw.1 O;have⟨de,f,h8⟩:=ai.1 h7;have⟨hu,h9⟩:=bw.1 h8;have⟨ar,har,h10⟩:=ai.1 h9;rcases gA.1 h10 with⟨_,z⟩ | ⟨hro,z⟩
   ·exact z.elim
   have⟨hn,h12⟩:=cT.1 z;cases au.1 h12;have V:P.underlying e=some (.slice e0):=by cases ds<;>first | (cases au.1 S;exact j) | exact S.elim
   have hd1:P.underlying Z=some (.slice src):=by cases dst<;>first | (cases au.1 R;exact g) | exact R.elim
   rw[gB,FC hu] at f;have G:=aM.1 G;subst G;have q:=i_ har;rw[hro] at q;cases J with
   | lE h hk hr B hl=>rw[B] at hn;exact absurd hn (by decide)
   | own h hk hr B hm0 Q ht=>
    rename_i cap mu
    have⟨N8,T,_,_,hcl⟩:=L.obj Y _ q;rw[h] at T;cases T;have⟨C,fz,k1,k2,_⟩:=hcl hr;refine⟨M,.slice (some ⟨mu.bV,mu.sh,none⟩) mu.len cap,w.freeze ⟨mu.bV,C.size,none⟩ 1,?_,.own h hk hr B hm0 Q ht,FD L q h hr (hk.trans (aM.1 hk1)) k1 k2 _⟩;have hsh:w.shape? mu.bV=some (ar.e,C.size):=by unfold World.shape?;rw[k1]
    simp[convert,Zza V,markStringish];cases V.symm.trans hd1;simp[Zza f,hsh]
  ·refine sl rfl o (λl src=>?_);subst src;cases J
 case int k n=>
  have⟨v2,I,o⟩:=ai.1 m;cases au.1 o;cases J;have⟨v',k1,k2⟩:=tz (M:=M) (k:=k) I j g;grind [uN.pure]
 case num k n=>
  have⟨v2,I,o⟩:=ai.1 m;cases au.1 o;cases J;have⟨v',k1,k2⟩:=tz (M:=M) (k:=k) I j g;grind [uN.pure]
 case str l=>
  cases J with
  | str hl=>
  replace m:=(bw.1 m).2;cases dst<;>simp only at m<;>(try exact m.elim)
  case string=>
   cases au.1 m;refine uN.pure L (v':=.string ⟨⟨l⟩⟩) ?_ (.str hl);cases ds<;>simp[convert,Zza j,Zza g]
  case slice src=>
   have⟨de,f,o⟩:=ai.1 m;have⟨hu,A⟩:=bw.1 o;have⟨x,Q,N⟩:=ai.1 A;have⟨xs,hxs,O⟩:=ai.1 N;obtain⟨rfl,hq⟩:=cL hxs;cases hq;rw[gB,FC hu] at f;have hbs:(⟨⟨l⟩⟩:ByteArray).size=l.length:=rfl;have hol:(D.ofB l).length=l.length:=by rw[<-p.bl,p.bo]
   have hge:=grownCap_ge w l.length 0 src;have hCs:(Lib.bytesCells w src ⟨⟨l⟩⟩).size=grownCap w l.length 0 src:=by
    grind [Lib.bytesCells]
   have⟨M',k1,k2⟩:=mR (w:=w) (w':=Lib.bytesWorld w src ⟨⟨l⟩⟩) (C:=Lib.bytesCells w src ⟨⟨l⟩⟩) (cap:=grownCap w l.length 0 src) p O L hf (by rw[Lib.bytesWorld_size];omega) (λx Q=>Lib.bytesWorld_at_old w src _ x Q) (Lib.bytesWorld_at_new w src _) (.inr ⟨Zah _,p.b1⟩) rfl rfl rfl
    (λi u hu=>by
     rw[qm p,p.bo,Zbk] at hu;cases q:l[i]? with
     | none=>rw[q] at hu;cases hu
     | some Y=>
      rw[q] at hu;cases hu;have hi:=(Zam.1 q).1;refine⟨.int .u8 Y.toNat,?_,.int (re Y)⟩;unfold Lib.bytesCells;rw[ZbT (by grind),Zdg];show(l.toArray[i]?).map _=_
      rw[Zc0,q];rfl) (by rw[hCs,p.b1,Zb8]) ω ω
   refine⟨M',_,_,(Lib.run_convert_string_bytes (P:=P) w e Z src ⟨⟨l⟩⟩ j g f),?_,k2⟩;grind
end
section
variable {P:Program} {D:Data} {cd:TypeId->Option Nat} {M M':Pm D} {φ:T (AV D.E)} {a:Act} {N:Nat} {w w':World} {H:Hp D} {s s':St D.E}
variable {m y l:Nat} {e d F:Option Value} {x X W:Option (AV D.E)} {Z U:TypeId} {Y v L:AV D.E} {z:Value} {h V:Int} {O:Option Addr}
variable {K J:Nat}
def LA (M:Pm D) (x:Option (AV D.E)) (b:Option Value):Prop:=(x=none/\b=none)\/∃u a,x=some u/\b=some a/\VR M u a
theorem LA.map {v:Option Operand} (h:(evO P D φ v).H x) (b:FR M φ a N):LA M x (v.map a.eval):=by
 cases v with
 | none=>cases au.1 (h);exact .inl ⟨rfl,rfl⟩
 | some y=>
  have⟨u,hu,h1⟩:=ai.1 (h);cases au.1 h1;exact .inr ⟨u,_,rfl,rfl,dx hu b⟩
theorem cU {k:IntKind} (h:m<=y) (ab:BoundsCode) (w:World):(Instr.sliceBound (.int k (m:Int)) y ab).run P w=.ok m w:=by
 grind [Instr.sliceBound,asIntOf,Sem.run_pure]
theorem eh {b:Bool} (c:(F=none/\J=y)\/∃k,F=some (.int k (J:Int))/\J<=y)
  (a:(d=none/\F=none/\K=m)\/∃k,d=some (.int k (K:Int))/\K<=J) (hl:(e=none/\l=0)\/∃k,e=some (.int k (l:Int))/\l<=K) (w:World):
  (Instr.sliceBounds b m y e d F).run P w=.ok (l,K,J) w:=by
 rcases c with⟨rfl,rfl⟩ | ⟨k1,rfl,c⟩<;>rcases a with⟨rfl,h0,rfl⟩ | ⟨k2,rfl,a⟩<;>rcases hl with⟨rfl,rfl⟩ | ⟨k3,rfl,hl⟩
 all_goals first
  | (cases h0;done)
  | (simp only[Instr.sliceBounds,Zzd,Zzc,Zzb,cU c,cU a,cU hl])
  | (simp only[Instr.sliceBounds,Zzd,Zzc,Zzb,cU c,cU a])
  | (simp only[Instr.sliceBounds,Zzd,Zzc,Zzb,cU a,cU hl])
  | (simp only[Instr.sliceBounds,Zzd,Zzc,Zzb,cU a])
  | (simp only[Instr.sliceBounds,Zzd,Zzc,Zzb,cU hl])
  | (simp only[Instr.sliceBounds,Zzd,Zzc,Zzb])
theorem fZ {size:Nat} (ht:P.underlying Z=some (.slice U)) (hs:ub P U=some m)
  (a:∀w,(Instr.sliceBounds true y l e d F).run P w=.ok (K,J,size) w) (w:World):
  (Instr.sliceAt Z (.slice O y l) e d F).run P w=.ok (.slice (if size=K then O else O.map (·.add (K*m))) (J-K) (size-K)) w:=by
 simp only[Instr.sliceAt,Zzd,Zza ht,Zzb,Instr.slice,a,cI hs,Zzc]
theorem vT {α:Type} {xs r:List α} (h:(Lr D xs x X W).H r) (G:LA M x e) (C:LA M X d) (I:LA M W F):∃l a:Nat,l<=a/\a<=xs.length/\r=(xs.take a).drop l/\
  ∀cap,xs.length<=cap->∃m,a<=m/\m<=cap/\∀(b:Bool) (w:World),(Instr.sliceBounds b xs.length cap e d F).run P w=.ok (l,a,m) w:=by
 have⟨_,h1,U⟩:=ai.1 h;have⟨S,N,O⟩:=ai.1 U
 
 obtain⟨a,hle,rfl,s⟩:∃a:Nat,a<=xs.length/\S=xs.take a/\((X=none/\d=none/\a=xs.length)\/∃k u,X=some u/\d=some (.int k ↑a)/\∀k2 v,(cA u).H (k2,v)->v=a):=by
  rcases C with⟨rfl,rfl⟩ | ⟨u,R,rfl,rfl,hu⟩
  ·cases au.1 (N);simp_all
  ·have⟨k,n,i,j⟩:=bk.1 (show(aL (cA u) λ_ h=>ask (aH zI h) (ask (aH h (ag xs)) (.ret (dj xs h)))).H S from N);have⟨g,o⟩:=cT.1 j;have⟨p,c⟩:=cT.1 o;cases au.1 c;obtain⟨rfl,_⟩:=ia i hu;have A:0<=n:=ZaH g;have B:n<=↑xs.length:=ZaH p;grind [dj,QeP]
 obtain⟨l,t,rfl,f⟩:∃l:Nat,l<=a/\r=(xs.take a).drop l/\((e=none/\l=0)\/∃k,e=some (.int k ↑l)/\l<=a):=by
  have hlen:(xs.take a).length=a:=by grind
  rcases G with⟨rfl,rfl⟩ | ⟨u,R,rfl,rfl,hu⟩
  ·cases au.1 (O);simp_all
  ·have⟨k,n,i,j⟩:=bk.1 (show(aL (cA u) λ_ l=>ask (aH zI l) (ask (aH l (ag (xs.take a))) (.ret (qW (xs.take a) l)))).H r from O);have⟨g,o⟩:=cT.1 j;have⟨p,c⟩:=cT.1 o;cases au.1 c;obtain⟨rfl,_⟩:=ia i hu;have A:0<=n:=ZaH g;have B:n<=((xs.take a).length:Int):=ZaH p;grind [qW]
 refine⟨l,a,t,hle,rfl,λcap Q=>?_⟩;rcases I with⟨rfl,rfl⟩ | ⟨u,R,rfl,rfl,hu⟩
 ·refine⟨cap,ω,Zah _,λb w=>eh (.inl ⟨rfl,rfl⟩) ?_ f w⟩;grind
 ·have⟨k,m,i,j⟩:=bk.1 (show(aL (cA u) λ_ m=>az (cN X) λX=>aL (cA X) λ_ h=>ask (aH h m) (ask (aH m (ag xs)) (.ret ()))).H _ from h1);have⟨mx,g,o⟩:=ai.1 j;have⟨k2,v,p,c⟩:=bk.1 o;have⟨lo,y⟩:=cT.1 c;have⟨z,_⟩:=cT.1 y;obtain⟨rfl,_⟩:=ia i hu;have L:m<=↑xs.length:=ZaH z;have K:=ZaH lo;rcases s with⟨J,_⟩ | ⟨k3,hi,J,e2,T⟩
  ·grind [bz]
  ·rw[ J] at g;cases g;have:=T k2 v p;subst this;obtain⟨V,rfl⟩:∃q:Nat,m=q:=⟨m.toNat,ω⟩;exact⟨V,ω,ω,λb w=>eh (.inr ⟨k,rfl,ω⟩) (.inr ⟨k3,e2,ω⟩) f w⟩
theorem vU {m:Int} (d:(hI D x h V).H m) (l:LA M x e):(x=none/\e=none/\m=h)\/∃(k:IntKind) (q:Nat),m=q/\e=some (.int k (q:Int))/\m<=V:=by
 rcases l with⟨rfl,rfl⟩ | ⟨u,p,rfl,rfl,hu⟩
 ·cases au.1 (d);exact .inl ⟨rfl,rfl,rfl⟩
 ·have⟨k,n,c,b⟩:=bk.1 (show(aL (cA u) λ_ m=>ask (aH zI m) (ask (aH m V) (.ret m))).H m from d);have⟨f,i⟩:=cT.1 b;have⟨j,a⟩:=cT.1 i;cases au.1 a;obtain⟨rfl,_⟩:=ia c hu;have g:0<=m:=ZaH f;obtain⟨o,rfl⟩:∃q:Nat,m=q:=⟨m.toNat,ω⟩;exact .inr ⟨k,o,rfl,rfl,ZaH j⟩
theorem gO (h:(n' D x m y).H l) (b:LA M x e):(x=none/\e=none/\l=m)\/∃k,e=some (.int k (l:Int))/\l<=y/\x≠none:=by
 rcases b with⟨rfl,rfl⟩ | ⟨u,a,rfl,rfl,hu⟩
 ·cases au.1 (h);exact .inl ⟨rfl,rfl,rfl⟩
 ·have⟨n,c,h1⟩:=ai.1 (h);grind [bw,au,FA,cm]
theorem CN {QeS:Option Value} (l:Oz D x) (b:(hI D x zI V).H h):h=0:=by
 cases x with
 | none=>exact(au.1 (b)).symm
 | some v=>
  have⟨k,n,c,d⟩:=bk.1 (show(aL (cA v) λ_ m=>ask (aH zI m) (ask (aH m V) (.ret m))).H h from b);have⟨_,e⟩:=cT.1 d;have⟨_,a⟩:=cT.1 e;cases au.1 a;cases v<;>simp only[Oz] at l<;>(try cases l)
  case num k2 f=>
   cases au.1 c;rw[ql] at l;simpa [zI] using l
theorem oq:(some (⟨m,y,none⟩:Addr)).map (·.add l)=some ⟨m,y+l,none⟩:=by grind [O5]
theorem A8 {len cap:Nat} {base:Option Addr} (ht:P.underlying Z=some (.slice U)) (hs:ub P U=some m) (k:LA M W F) (v:W=none) (y:(hI D X (len:Int) (len:Int)).H h) (hl:(hI D x zI h).H V)
  (j:LA M x e) (r:LA M X d) (o:len<=cap):∃b a:Nat,h=b/\V=a/\a<=b/\b<=len/\∀w,(Instr.sliceAt Z (.slice base len cap) e d F).run P w=.ok (.slice (if cap=a then base else base.map (·.add (a*m))) (b-a) (cap-a)) w:=by
 have g:F=none:=by rcases k with⟨_,U⟩ | ⟨u,z,U,_⟩;exact U;rw[v] at U;cases U
 subst g;obtain⟨b,rfl,n,p⟩:∃b:Nat,h=b/\b<=len/\((d=none/\b=len)\/∃q,d=some (.int q ↑b)):=by
  grind [vU]
 obtain⟨a,rfl,i,s⟩:∃a:Nat,V=a/\a<=b/\((e=none/\a=0)\/∃q,e=some (.int q ↑a)/\a<=b):=by
  rcases vU hl j with⟨_,e2,rfl⟩ | ⟨q,a,rfl,e2,lo⟩
  ·exact⟨0,rfl,Zaj _,.inl ⟨e2,rfl⟩⟩
  ·grind
 refine⟨b,a,rfl,rfl,i,n,λw=>?_⟩;grind [fZ,eh]
theorem FF (_hD:aY D) (h:(OA P D Z Y x X W).H v) (hx:VR M Y z) (J:LA M x e) (I:LA M X d) (C:LA M W F):
  ∃S,(∀w,(Instr.sliceAt Z z e d F).run P w=.ok S w)/\VR M v S:=by
 have⟨G,hd,h1⟩:=ai.1 h;rw[gB] at hd;cases G<;>simp only at h1<;>(try exact h1.elim)
 case string=>
  have⟨A,U⟩:=bw.1 h1;have⟨l,hl,K⟩:=ai.1 U;have⟨r,x',L⟩:=ai.1 K;cases au.1 L;obtain⟨rfl,Qsx⟩:=lW hl hx;obtain⟨y,f,hln,Q,rfl,t⟩:=vT (P:=P) x' J I C;have⟨m,_,_,hi⟩:=t l.length (Zah _);have O:F=none:=by
   rcases C with⟨_,B⟩ | ⟨u,u',B,_⟩
   all_goals grind
  subst O;refine⟨.string ⟨⟨(l.take f).drop y⟩⟩,λw=>?_,.str (by grind)⟩;have da:(⟨⟨l⟩⟩:ByteArray).size=l.length:=rfl;simp only[Instr.sliceAt,Zzd,Zza hd,Zzb,Instr.slice,Option.isSome_none,ZaE,Za0,da,hi,Zzc,tu ⟨⟨l⟩⟩ y f hln Q];grind [List.drop_take]
 case slice B=>
  have⟨k,hk,U⟩:=ai.1 h1;rw[sE] at hk
  
  have lst:∀{c b o cap:Nat} {xs r:List (D.E c)},k=D.size c->(Lr D xs x X W).H r->ct M b o c xs->xs.length<=9223372036854775807->xs.length<=cap->∃S,(∀w,(Instr.sliceAt Z (.slice (some ⟨b,o,none⟩) xs.length cap) e d F).run P w=.ok S w)/\VR M (.list c r) S:=by
   intro c b o cap xs r hkc x' qo V T;obtain⟨y,f,hln,Q,rfl,t⟩:=vT (P:=P) x' J I C;have⟨m,hm1,hm2,hi⟩:=t cap T;refine⟨_,λw=>fZ hd hk (hi true) w,?_⟩;have hlen:((xs.take f).drop y).length=f-y:=by grind
   by_cases hml:m=y
   ·have h0:f-y=0:=ω;have he:(xs.take f).drop y=[]:=Zap ω;rw[he,h0];exact .eD
   ·rw[Zaa hml,oq,<-hlen];refine .list (λi X j u hu=>?_) ω ω;have hi2:y+i<xs.length:=ω;have hg:((xs.take f).drop y)[i]=xs[y+i]:=by simp
    rw[hg] at hu;have:=qo (y+i) hi2 j u hu;grind
  have emp:∀{c cap:Nat} {ad:Option Addr} {r:List (D.E c)},(Lr D ([]:List (D.E c)) x X W).H r->∃S,(∀w,(Instr.sliceAt Z (.slice ad 0 cap) e d F).run P w=.ok S w)/\VR M (.list c r) S:=by
   intro c cap ad r x';obtain⟨y,f,hln,Q,rfl,t⟩:=vT (P:=P) x' J I C;have⟨m,hm1,hm2,hi⟩:=t cap (Zaj _);refine⟨_,λw=>fZ hd hk (hi true) w,?_⟩;have h0:f-y=0:=by grind
   rw[h0];simp only[Zdl,List.drop_nil];exact .eD
  
  have QeT:∀{b:Nat} {len cap:Nat} {s:MI} {h0 mx:Int},M.pl b=some s->s.iN=k->s.real->len<=s.len->s.len<=9223372036854775807->s.len<=cap->s.sh+cap*s.iN=s.p_->Option.isNone W->(hI D X ↑len ↑len).H h0->(hI D x zI h0).H mx->
    ∃S,(∀w,(Instr.sliceAt Z (.slice (some ⟨s.bV,s.sh,none⟩) len cap) e d F).run P w=.ok S w)/\VR M (yP D b k mx h0 (Oz D x)) S:=by
   intro b len cap s h0 mx g p x' hlen h64 hcap htot A N hl;obtain⟨f,y,rfl,rfl,hll,Q,R⟩:=A8 (P:=P) (base:=some ⟨s.bV,s.sh,none⟩) (cap:=cap) hd hk C (by simpa using A) N hl J I ω;refine⟨_,R,?_⟩;unfold yP;cases hz:Oz D x with
   | true=>
    have:=CN (QeS:=e) hz hl;have hl0:y=0:=ω;subst hl0;have Qk0:(if cap=0 then some (⟨s.bV,s.sh,none⟩:Addr) else(some (⟨s.bV,s.sh,none⟩:Addr)).map (·.add (0*k)))=some ⟨s.bV,s.sh,none⟩:=by
     split
     ·rfl
     ·rw[oq];simp
    rw[Qk0];exact .pre g p x' rfl h64 ω hcap htot
   | false=>
    show VR M (.part b k ↑y ((f:Int) -↑y)) _
    have hsub:((f:Int) -↑y)=((f-y:Nat):Int):=ω;by_cases hcl:cap=y
    ·rw[Zac hcl];have h1:f-y=0:=ω;rw[hsub,h1];exact .jf g p rfl ω
    ·rw[ oq];have:=VR.part (M:=M) (b:=b) (k:=k) (l:=f-y) (cap:=cap-y) (o:=↑y) (n:=((f-y:Nat):Int)) g p x' rfl ω ω h64 ω;grind
  have QeU:∀{b:Nat} {s:MI} {h0 mx:Int},M.pl b=some s->s.iN=k->s.real=false->s.len=0->Option.isNone W->(hI D X (0:Int) (0:Int)).H h0->(hI D x zI h0).H mx->
    ∃S,(∀w,(Instr.sliceAt Z (.slice none 0 0) e d F).run P w=.ok S w)/\VR M (yP D b k mx h0 (Oz D x)) S:=by
   intro b s h0 mx g p x' hlen A N hl;obtain⟨f,y,rfl,rfl,hll,Q,R⟩:=A8 (P:=P) (len:=0) (base:=none) (cap:=0) hd hk C (by simpa using A) N hl J I (Zah _);refine⟨_,R,?_⟩;obtain rfl:f=0:=ω;obtain rfl:y=0:=ω;unfold yP;cases hz:Oz D x with
   | true=>exact .og g p x' rfl hlen
   | false=>exact .jf g p (by simp) (by simp)
  cases Y<;>simp only at U<;>(try exact U.elim)
  case list c xs=>
   have⟨hkc,K⟩:=bw.1 U;have⟨r,x',L⟩:=ai.1 K;cases au.1 L;cases hx with
   | list hs V T=>exact lst (aM.1 hkc) x' hs V T
   | eD=>exact emp x'
  case grow c xs b=>
   have⟨hkc,K⟩:=bw.1 U;have⟨r,x',L⟩:=ai.1 K;cases au.1 L;cases hx with
   | grow g hr2 hl hz hs V T ht=>exact lst (aM.1 hkc) x' hs V T
   | jF g hr2=>exact emp x'
  case dd=>
   cases hx;have⟨m,V,K⟩:=ai.1 U;have⟨f,N,L⟩:=ai.1 K;have⟨l,hl,lo⟩:=ai.1 L;have hmh:Bool.and (Option.isSome W) (Option.isNone X)=false/\v=.dd:=by
    rcases gA.1 lo with⟨_,h9⟩ | ⟨h8,h9⟩
    ·exact h9.elim
    ·grind [au]
   obtain⟨hmh,rfl⟩:=hmh;have rm:=gO V C;have rh:=gO N I;have rl:=gO hl J;have m0:m=0:=ω;have h0:f=0:=ω;have mx:l=0:=ω;subst m0 h0 mx;have hi:∀w,(Instr.sliceBounds true 0 0 e d F).run P w=.ok (0,0,0) w:=λw=>eh (by
     rcases rm with⟨_,e2,_⟩ | ⟨q,e2,_⟩
     ·exact .inl ⟨e2,rfl⟩
     ·exact .inr ⟨q,e2,Zah _⟩) (by
     rcases rh with⟨e1,e2,_⟩ | ⟨q,e2,_⟩
     ·refine .inl ⟨e2,?_,rfl⟩;rcases C with⟨_,B⟩ | ⟨u,u',B,_⟩
      ·exact B
      ·rw[B,e1] at hmh;cases hmh
     ·exact .inr ⟨q,e2,Zah _⟩) (by
     rcases rl with⟨_,e2,_⟩ | ⟨q,e2,_⟩
     ·exact .inl ⟨e2,rfl⟩
     ·exact .inr ⟨q,e2,Zah _⟩) w
   refine⟨_,λw=>fZ hd hk hi w,?_⟩;simp;exact .dd
  case own b k' n=>
   have⟨hq,K⟩:=bw.1 U;rw[h_,aM] at hq;obtain⟨rfl,A⟩:=hq;have⟨h0,N,L⟩:=ai.1 K;have⟨mx,hl,lo⟩:=ai.1 L;cases au.1 lo;cases hx with
   | own g p x' f V T ht=>subst f;exact QeT g p x' (Zah _) V T ht A N hl
   | lE g p x' f hlz=>subst f;exact QeU g p x' hlz A N hl
  case pre b k' n=>
   have⟨hq,K⟩:=bw.1 U;rw[h_,aM] at hq;obtain⟨rfl,A⟩:=hq;have⟨h0,N,L⟩:=ai.1 K;have⟨mx,hl,lo⟩:=ai.1 L;cases au.1 lo;cases hx with
   | pre g p x' f V hle T ht=>subst f;exact QeT g p x' hle V T ht A N hl
   | og g p x' f hlz=>subst f;exact QeU g p x' hlz A N hl
  case part b k' o n=>
   have⟨hq,K⟩:=bw.1 U;rw[h_,aM] at hq;obtain⟨rfl,A⟩:=hq;have⟨h0,N,L⟩:=ai.1 K;have⟨mx,hl,lo⟩:=ai.1 L;cases au.1 lo;have key:∀{len cap:Nat} {base:Option Addr} {s:MI},n=↑len->M.pl b=some s->s.iN=k'->0<=o->len<=cap->s.len<=9223372036854775807\/len=0->(len≠0->s.real/\o.toNat+len<=s.len/\base=some ⟨s.bV,s.sh+o.toNat*s.iN,none⟩)->
     ∃S,(∀w,(Instr.sliceAt Z (.slice base len cap) e d F).run P w=.ok S w)/\VR M (Fh D b k' o mx h0 (Oz D x)) S:=by
    intro len cap base s f g p ho hcap h64 hne;subst f;obtain⟨f,y,rfl,rfl,hll,Q,R⟩:=A8 (P:=P) (base:=base) (cap:=cap) hd hk C (by simpa using A) N hl J I hcap;refine⟨_,R,?_⟩;unfold Fh;have hsub:((f:Int) -↑y)=((f-y:Nat):Int):=ω;cases hz:Oz D x with
    | true=>
     have:=CN (QeS:=e) hz hl;have hl0:y=0:=ω;subst hl0;show VR M (.part b k' o ↑f) _
     by_cases hz0:f=0
     ·subst hz0;exact .jf g p rfl ho
     ·obtain⟨x',hle,rfl⟩:=hne ω;rw[Zaa ω,ZbS];exact .part g p x' rfl ho ω ω ω
    | false=>
     show VR M (.part b k' (o+↑y) ((f:Int) -↑y)) _
     rw[hsub];by_cases hz0:f-y=0
     ·rw[hz0];exact .jf g p rfl ω
     ·obtain⟨x',hle,rfl⟩:=hne ω;rw[ oq];have ht:(o+↑y).toNat=o.toNat+y:=ω;have:=VR.part (M:=M) (b:=b) (k:=k') (l:=f-y) (cap:=cap-y) (o:=o+↑y) (n:=((f-y:Nat):Int)) g p x' rfl ω ω ω ω;rw[ht,ZbL,<-Za4] at this;grind
   cases hx with
   | part g p x' f ho hle V T=>exact key f g p ho T (.inl V) λ_=>⟨x',hle,rfl⟩
   | jf g p f ho=>exact key (len:=0) f g p ho (Zaj _) (.inr rfl) λh=>absurd rfl h
  case sub b o n=>
   have⟨f,N,K⟩:=ai.1 U;have⟨l,hl,L⟩:=ai.1 K;have⟨Qca,lo⟩:=bw.1 L;rw[h_,aM] at Qca;obtain⟨rfl,A⟩:=Qca;cases au.1 lo;have O:F=none:=by
    rcases C with⟨_,B⟩ | ⟨u,u',B,_⟩
    all_goals grind
   subst O;have rh:=gO N I;have rl:=gO hl J;have Q:f<=n:=ω;have hll:l<=f:=ω;have hi:∀cap,n<=cap->∀w,(Instr.sliceBounds true n cap e d none).run P w=.ok (l,f,cap) w:=λcap T w=>eh (.inl ⟨rfl,rfl⟩) (by
     rcases rh with⟨e1,e2,e3⟩ | ⟨q,e2,_⟩
     ·exact .inl ⟨e2,rfl,e3⟩
     ·exact .inr ⟨q,e2,ω⟩) (by
     rcases rl with⟨_,e2,e3⟩ | ⟨q,e2,_⟩
     ·exact .inl ⟨e2,e3⟩
     ·exact .inr ⟨q,e2,ω⟩) w
   cases hx with
   | @sub _ _ _ cap s g x' T V=>
    refine⟨_,λw=>fZ hd hk (hi cap T) w,?_⟩;by_cases hcl:cap=l
    ·have h1:f-l=0:=ω;rw[Zac hcl,show Nat.sub f l=f-l from rfl,h1];exact .oh
    ·rw[ oq];have:=VR.sub (M:=M) (b:=b) (o:=o+l) (n:=f-l) (cap:=cap-l) g x' ω ω;grind
   | @oh _ _ cap ad=>
    refine⟨_,λw=>fZ hd hk (hi cap (Zaj _)) w,?_⟩;have h1:f-l=0:=ω;rw[show Nat.sub f l=f-l from rfl,h1];split
    ·exact .oh
    ·rw[Zcp];exact .oh
 case array n B=>
  cases Y<;>simp only at h1<;>(try exact h1.elim)
  case ptr b o=>
   have⟨k,hk,U⟩:=ai.1 h1;rw[sE] at hk;have⟨hk1,K⟩:=bw.1 U;rw[aM] at hk1;subst hk1;have⟨hq,L⟩:=bw.1 K;rw[h_,cm] at hq;have⟨Qk1,A⟩:=hq;have⟨f,N,lo⟩:=ai.1 L;have⟨l,hl,h6⟩:=ai.1 lo;cases au.1 h6;have QrP:=Qk1;have O:F=none:=by
    rcases C with⟨_,B⟩ | ⟨u,u',B,_⟩
    all_goals grind
   subst O;have rh:=gO N I;have rl:=gO hl J;have Q:f<=n:=ω;have hll:l<=f:=ω;have hi:∀w,(Instr.sliceBounds false n n e d none).run P w=.ok (l,f,n) w:=λw=>eh (.inl ⟨rfl,rfl⟩) (by
     rcases rh with⟨e1,e2,e3⟩ | ⟨q,e2,_⟩
     ·exact .inl ⟨e2,rfl,e3⟩
     ·exact .inr ⟨q,e2,ω⟩) (by
     rcases rl with⟨_,e2,e3⟩ | ⟨q,e2,_⟩
     ·exact .inl ⟨e2,e3⟩
     ·exact .inr ⟨q,e2,ω⟩) w
   cases hx with
   | @ptr _ _ s g x'=>
    refine⟨.slice (some (if n=l then⟨s.bV,s.sh+o,none⟩ else⟨s.bV,s.sh+o+l*1,none⟩)) (f-l) (n-l),λw=>?_,?_⟩
    ·simp only[Instr.sliceAt,Zzd,Zza hd,Zzb,Instr.sureAddr,Zzc,hi,cI hk,O5]
    ·by_cases hcl:n=l
     ·have h1:f-l=0:=ω;rw[ show Nat.sub f l=f-l from rfl,h1];exact .oh
     ·rw[Zaa hcl];have:=VR.sub (M:=M) (b:=b) (o:=o+l) (n:=f-l) (cap:=n-l) g x' ω ω;grind
theorem ue (h:(tq P D Z Y m).H v) (n:VR M Y z):∃u,(∀w,(Instr.fieldAt Z z m).run P w=.ok u w)/\VR M v u:=by
 have⟨d,s,h1⟩:=ai.1 h;have⟨I,f,B⟩:=ai.1 h1;have⟨fd,a,C⟩:=ai.1 B;have⟨k,hk,F⟩:=ai.1 C;have⟨G,l⟩:=bw.1 F;rw[gB] at s;rw[sE] at hk;rw[bz] at a;have p:¬k=0:=by grind [cm]
 cases d<;>first | exact f.elim | skip
 rename_i A
 cases au.1 f;rw[eI,ZaL] at a;have run:∀(b o:Nat) (w:World),(Instr.fieldAt Z (.pointer (some ⟨b,o,none⟩)) m).run P w=.ok (.pointer (some ⟨b,o+fd.offset,none⟩)) w:=λb o w=>by
  simp only[Instr.fieldAt,Zzd,Zza s,Zzb,a,Instr.sureAddr,Zzc,fieldPlace,cI hk,Zaa p,O5]
 cases Y<;>simp only at l<;>(try exact l.elim)
 case ptr b o=>
  cases au.1 l;cases n with
  | ptr e r=>exact⟨_,run _ _,by rw[Za4];exact .ptr e r⟩
 case j7 g o=>
  cases au.1 l;cases n<;>exact⟨_,run _ _,.j7 _ _⟩
 case lL b k2 i j=>
  cases au.1 l;cases n with
  | lL e r q hi=>exact⟨_,run _ _,by rw[Za4];exact .lL e r q hi⟩
 case mP c y j=>
  cases au.1 l;cases n with
  | mP hs=>exact⟨_,run _ _,by rw[Za4];exact .mP hs⟩
def CO (h:(IK P D Z Y m).H v) (o:VR M Y z):∃c,(∀w,(Instr.field Z z m).run P w=.ok c w)/\VR M v c:=by
 have⟨d,e,h1⟩:=ai.1 h;have⟨q,b,i⟩:=ai.1 h1;have⟨cs,l,j⟩:=ai.1 i;have⟨fd,a,k⟩:=ai.1 j;rw[gB] at e;rw[bz] at a;obtain⟨p,rfl,hl⟩:=lX l o;cases d<;>first | exact b.elim | skip
 cases au.1 b;rw[eI,ZaL] at a;have⟨c,f,n⟩:=jX k hl;exact⟨c,λw=>by simp only[Instr.field,Zzd,Zza e,Zzb,a,Go.asAgg,Zzc,f],n⟩
theorem yl {x i:AV D.E} {i':Value} (h:(yR P D Z x i).H L) (R:VR M x z) (hi:VR M i i'):∃J,(∀w,(Instr.indexAt Z z i').run P w=.ok J w)/\VR M L J:=by
 have⟨d,Y,h1⟩:=ai.1 h;rw[gB] at Y;cases d<;>simp only at h1<;>(try exact h1.elim)
 case slice e=>
  have⟨k,hk,X⟩:=ai.1 h1;have⟨T,n,Q,K⟩:=bk.1 X;rw[sE] at hk;obtain⟨rfl,_⟩:=ia Q hi;have run:∀(b o len cap q:Nat) (w:World),n=↑q->q<len->(Instr.indexAt Z (.slice (some ⟨b,o,none⟩) len cap) (.int T n)).run P w=.ok (.pointer (some ⟨b,o+q*k,none⟩)) w:=λb o len cap q w S O=>by
   subst S;have s:0<=(q:Int)/\(q:Int)<↑len:=⟨ω,ω⟩;simp only[Instr.indexAt,asIntOf,Zzd,Zzc,Zza Y,Zzb,Zac s,cI hk,O5,Zad]
  
  have U:∀{c b o cap:Nat} {xs:List (D.E c)},k=D.size c->aH zI n->ay n (ag xs)->ct M b o c xs->∃J,(∀w,(Instr.indexAt Z (.slice (some ⟨b,o,none⟩) xs.length cap) (.int T n)).run P w=.ok J w)/\VR M (.mP c (gt (D.Wn c) xs n.toNat) 0) J:=by
   intro c b o cap xs g r F hs;have C:0<=n:=ZaH r;have h6':n<↑xs.length:=ZaH F;obtain⟨q,rfl⟩:∃q:Nat,n=q:=⟨n.toNat,ω⟩;have S:q<xs.length:=ω;refine⟨_,λw=>run b o xs.length cap q w rfl S,?_⟩;rw[Zad,A6 S,g];have:=VR.mP (M:=M) (j:=0) (x:=xs[q]) (b:=b) (o:=o+q*D.size c) (λj u e=>hs q S j u e);assumption
  have I:∀{b q:Nat} {A:MI} {len cap o:Nat},M.pl b=some A->A.real->A.iN=k->n=↑q->q<len->o+len<=A.len->∃J,(∀w,(Instr.indexAt Z (.slice (some ⟨A.bV,A.sh+o*A.iN,none⟩) len cap) (.int T n)).run P w=.ok J w)/\VR M (.lL b k (o+q) 0) J:=by
   intro b q A len cap o f x' p S O hle;refine⟨_,λw=>run _ _ _ _ q w S O,?_⟩;have:=VR.lL (M:=M) (b:=b) (k:=k) (i:=o+q) (j:=0) f x' p ω;grind
  cases x<;>simp only at K<;>(try exact K.elim)
  case list c xs=>
   have⟨g,B⟩:=bw.1 K;have⟨r,F⟩:=cT.1 B;have⟨G,N⟩:=cT.1 F;cases au.1 N;cases R with
   | list hs W V=>exact U (aM.1 g) r G hs
   | eD=>exfalso;have C:0<=n:=ZaH r;have v:n<0:=ZaH G;omega
  case grow c xs b=>
   have⟨g,B⟩:=bw.1 K;have⟨r,F⟩:=cT.1 B;have⟨G,N⟩:=cT.1 F;cases au.1 N;cases R with
   | grow f x' hl hz hs W V ht=>exact U (aM.1 g) r G hs
   | jF=>exfalso;have C:0<=n:=ZaH r;have v:n<0:=ZaH G;omega
  case own b k' m=>
   have⟨g,B⟩:=bw.1 K;have⟨r,F⟩:=cT.1 B;have⟨G,N⟩:=cT.1 F;cases au.1 N;rw[aM] at g;subst g;have C:0<=n:=ZaH r;have v:=ZaH G;obtain⟨q,rfl⟩:∃q:Nat,n=q:=⟨n.toNat,ω⟩;cases R with
   | @own _ _ cap _ A f p x' Q W V ht=>
    have⟨J,k1,k2⟩:=I (q:=q) (o:=0) (len:=A.len) (cap:=cap) f x' p rfl ω ω;grind
   | lE f p x' Q t=>exfalso;omega
  case pre b k' m=>
   have⟨g,B⟩:=bw.1 K;have⟨r,F⟩:=cT.1 B;have⟨G,N⟩:=cT.1 F;cases au.1 N;rw[aM] at g;subst g;have C:0<=n:=ZaH r;have v:=ZaH G;obtain⟨q,rfl⟩:∃q:Nat,n=q:=⟨n.toNat,ω⟩;cases R with
   | @pre _ _ l cap _ A f p x' Q W hle V ht=>
    have⟨J,k1,k2⟩:=I (q:=q) (o:=0) (len:=l) (cap:=cap) f x' p rfl ω ω;grind
   | og f p x' Q t=>exfalso;omega
  case part b k' o m=>
   have⟨g,B⟩:=bw.1 K;have⟨r,F⟩:=cT.1 B;have⟨G,N⟩:=cT.1 F;cases au.1 N;rw[aM] at g;subst g;have C:0<=n:=ZaH r;have v:=ZaH G;obtain⟨q,rfl⟩:∃q:Nat,n=q:=⟨n.toNat,ω⟩;cases R with
   | @part _ _ l cap _ _ A f p x' Q ho hle W V=>
    have⟨J,k1,k2⟩:=I (q:=q) (o:=o.toNat) (len:=l) (cap:=cap) f x' p rfl ω hle;grind
   | jf f p Q ho=>exfalso;omega
 case array len e=>
  have⟨k,hk,X⟩:=ai.1 h1;have⟨hk1,K⟩:=bw.1 X;have⟨n,Q,B⟩:=ai.1 K;have⟨O,r⟩:=bw.1 B;rw[sE] at hk;have hlt':=cm.1 O;obtain⟨T,rfl⟩:=FA Q hi;have run:∀(b o:Nat) (w:World),(Instr.indexAt Z (.pointer (some ⟨b,o,none⟩)) (.int T ↑n)).run P w=.ok (.pointer (some ⟨b,o+n*k,none⟩)) w:=λb o w=>by
   have s:0<=(n:Int)/\(n:Int)<↑len:=⟨ω,ω⟩;simp only[Instr.indexAt,asIntOf,Zzd,Zzc,Zza Y,Zzb,Instr.sureAddr,Zac s,cI hk,O5,Zad]
  cases x<;>simp only at r<;>(try exact r.elim)
  case ptr b o=>
   cases au.1 r;cases R with
   | ptr f x'=>exact⟨_,run _ _,by rw[Za4];exact .ptr f x'⟩
  case lL b k2 i j=>
   cases au.1 r;cases R with
   | lL f x' p hi=>exact⟨_,run _ _,by rw[Za4];exact .lL f x' p hi⟩
  case mP c y j=>
   cases au.1 r;cases R with
   | mP hs=>exact⟨_,run _ _,by rw[Za4];exact .mP hs⟩
theorem CP {u:Value} (h:(IL P D Z Y v).H L) (s:VR M Y z) (hi:VR M v u):∃b,(∀w,(Instr.index Z z u).run P w=.ok b w)/\VR M L b:=by
 have⟨d,m,h1⟩:=ai.1 h;rw[gB] at m;cases d<;>simp only at h1<;>(try exact h1.elim)
 case string=>
  have⟨i,n,p,c⟩:=bk.1 h1;have⟨l,hl,f⟩:=ai.1 c;have⟨g,j⟩:=cT.1 f;have⟨A,C⟩:=cT.1 j;cases au.1 C;obtain⟨rfl,_⟩:=ia p hi;obtain⟨rfl,_⟩:=lW hl s;have y:0<=n:=ZaH g;have B:n<↑l.length:=ZaH A;obtain⟨q,rfl⟩:∃q:Nat,n=q:=⟨n.toNat,ω⟩;have I:q<l.length:=ω;have F:(⟨⟨l⟩⟩:ByteArray)[q]?=some l[q]:=by
   rw[getElem?_pos (⟨⟨l⟩⟩:ByteArray) q I];rfl
  refine⟨.int .u8 (l[q].toNat:Int),λw=>by simp[Instr.index,asIntOf,Zza m,F],?_⟩;have e:sat l ↑q=(l[q].toNat:Int):=by
   grind [sat]
  rw[e];exact .int (re _)
 case array len e=>
  have⟨k,hk,c⟩:=ai.1 h1;have⟨n,p,f⟩:=ai.1 c;have⟨cs,G,g⟩:=ai.1 f;have⟨o,j⟩:=bw.1 g;rw[sE] at hk;obtain⟨i,rfl⟩:=FA p hi;obtain⟨N,rfl,hl⟩:=lX G s;have r:=cm.1 o;have⟨b,J,K⟩:=jX j hl;have a:0<=(n:Int)/\(n:Int)<↑len:=⟨ω,ω⟩;refine⟨b,λw=>?_,K⟩;simp only[Instr.index,asIntOf,Zzd,Zzc,Zza m,Zzb,Zac a,cI hk];exact J w
def ym (h:(yS D Y m).H v) (f:VR M Y z):∃a,(∀w,(Instr.extract z m).run P w=.ok a w)/\VR M v a:=by
 have⟨l,hl,h1⟩:=ai.1 h;obtain⟨g,rfl,b⟩:=O7 hl f;rw[bz,eI] at h1;have⟨a,c,e⟩:=b.get h1;rw[ZaL] at c;exact⟨a,λw=>by simp[Instr.extract,c],e⟩
end
end sx
end Go.Proofs.YtklaonhcplaofaaGreat
