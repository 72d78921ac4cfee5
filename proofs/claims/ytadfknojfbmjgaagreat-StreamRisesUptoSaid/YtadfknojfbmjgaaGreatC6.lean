/- StreamRises: a part of the proof. -/
import Derived.Test.YtadfknojfbmjgaaGreatC5
import Derived.Tactics
import Derived.Orders
set_option linter.all false
namespace Go.Proofs.YtadfknojfbmjgaaGreat
namespace sx
open Go Go.RowKit
section
variable {P:Program} {D:Data} {cd:TypeId->Option Nat} {M M':Pm D} {φ φ':T (AV D.E)} {a:Act} {N:Nat} {w w':World} {H:Hp D} {s s':St D.E}
variable {v i:AV D.E} {o:Oper} {c:Value} {Z:TypeId} {b:List (AV D.E)} {Y:Bool} {X:Array TypeId} {W:World} {A:Array Value} {V:Array Operand}
theorem Ml {x v:AV D.E} {x':Value} (h:(O4 D x).H v) (hx:VR M x x'):∀w,((match x' with
  | .pointer none | .nilIface | .nilFunc=>runtimePanic .nilDeref
  | .func (.method name) first captured=>
   match (first[0]?:Option Value) with
   | some .nilIface=>runtimePanic .nilDeref
   | some (.iface t w)=>do
    if (<-nilAhead ((<-program).types.size+Made.depth) t w name) !=some false then
     unsupported (.noEntry "op/nilCheck.the method's receiver behind this interface value is a nil pointer, or cannot be seen to be none, and the arguments act or may panic (ledger 612)")
    Pure.pure (.value (.func (.method name) first captured))
   | _=>Pure.pure (.value (.func (.method name) first captured))
  | x=>Pure.pure (.value x):Sem Next)).run P w=.ok (.value x') w/\v=x:=by
 intro w;unfold O4 at h;cases hx<;>simp only at h<;>(try exact h.elim)
 case ptr=>cases ai.1 h;exact⟨rfl,rfl⟩
 case kD=>cases ai.1 h;exact⟨rfl,rfl⟩
 case mj=>cases ai.1 h;exact⟨rfl,rfl⟩
 case nr=>cases ai.1 h;exact⟨rfl,rfl⟩
 case func fn _ _ _ _ _ _ _ _=>
  cases fn<;>simp only at h<;>(try exact h.elim);cases ai.1 h;simp_all
def Dw (h:(JP P D Z v).H i) (e:VR M v c):∃b,(∀w,(Instr.makeInterface Z c).run P w=.ok b w)/\VR M i b:=by
 obtain⟨d,a,h1⟩:=af.1 h;rw[gR] at a;cases d<;>simp only at h1<;>(try exact h1.elim)
 all_goals (cases ai.1 h1;exact⟨_,λw=>by simp only[Instr.makeInterface,Zzd,Zza a,Zzb,Zzc],.iface Z e⟩)
theorem qN {F:Value->Value->Sem Value} (p:∀(k:IntKind) (x y:Int) (w:World),(F (.int k x) (.int k y)).run P w=.ok (.int k (bif Y then fN x y else imax x y)) w):∀{d:List (AV D.E)} {c:List Value} {x v:AV D.E} {e:Value},(oL D Y d x).H v->LR M d c->VR M x e->
  ∃g,(∀w,(c.foldlM F e).run P w=.ok g w)/\VR M v g
 | [],c,x,v,e,h,hl,i=>by
  cases ai.1 (show(C.ret x).H v from h);rw[hl.oq];simp_all
 | y::d,c,x,v,e,h,hl,i=>by
  obtain⟨k,a,l,h1⟩:=bh.1 (show(aI (cT x) λk a=>aI (cT y) λj b=>bB (Bi k j) (oL D Y d (.int k (bif Y then fN a b else imax a b)))).H v from h);obtain⟨j,b,e2,n⟩:=bh.1 h1;obtain⟨m,o⟩:=bm.1 n;obtain rfl:=fT.1 m;obtain⟨z,r,rfl,s,q⟩:=hl.bX;obtain⟨rfl,i1⟩:=iE l i;obtain⟨rfl,i2⟩:=iE e2 s;have f:mv k (bif Y then fN a b else imax a b):=by
   grind [imax,fN]
  obtain⟨g,t,u⟩:=qN p o q (.int f);simp_all
theorem Xp {ts:Array TypeId} {ty:TypeId} (h:(oL D true (oo 1 b) v).H i) (h0:gH b 0=some v) (hl:LR M b A.toList):∃a,(∀w,(Builtin.min_ ts ty A).run P w=.ok a w)/\VR M i a:=by
 cases b with
 | nil=>cases h0
 | cons y b=>
  cases(show some y=some v from h0);obtain⟨g,r,e,d,c⟩:=hl.bX;obtain⟨a,h1,f⟩:=qN (P:=P) (F:=Builtin.min2) (λk v y w=>by rfl) (show(oL D true b v).H i from h) c d;grind [Builtin.min_]
theorem Xq {ts:Array TypeId} {ty:TypeId} (h:(oL D false (oo 1 b) v).H i) (h0:gH b 0=some v) (hl:LR M b A.toList):∃a,(∀w,(Builtin.max_ ts ty A).run P w=.ok a w)/\VR M i a:=by
 cases b with
 | nil=>cases h0
 | cons y b=>
  cases(show some y=some v from h0);obtain⟨g,r,e,d,c⟩:=hl.bX;obtain⟨a,h1,f⟩:=qN (P:=P) (F:=Builtin.max2) (λk v y w=>by rfl) (show(oL D false b v).H i from h) c d;grind [Builtin.max_]
def PE (h:(OX D v).H i) (o:VR M v c):∃l n cap,c=.slice l n cap/\VR M i (goInt n):=by
 have f:∀n:Nat,n<=9223372036854775807->VR M (.int .i64 (n:Int):AV D.E) (goInt n):=λn d=>.int (jv d)
 cases o<;>simp only[OX] at h<;>(try exact h.elim)
 case cF=>cases ai.1 h;exact⟨_,_,_,rfl,.num (jv (Zaj _))⟩
 case own a e x d g j ht=>cases ai.1 h;subst d;exact⟨_,_,_,rfl,f _ g⟩
 case l5 a e x d hl=>cases ai.1 h;subst d;exact⟨_,_,_,rfl,f 0 (Zaj _)⟩
 case pre a e x d g hl j ht=>cases ai.1 h;subst d;exact⟨_,_,_,rfl,f _ ω⟩
 case oP a e x d hl=>cases ai.1 h;subst d;exact⟨_,_,_,rfl,f 0 (Zaj _)⟩
 case part a e x d m hl g j=>cases ai.1 h;subst d;exact⟨_,_,_,rfl,f _ ω⟩
 case jB a e d m=>cases ai.1 h;subst d;exact⟨_,_,_,rfl,f 0 (Zaj _)⟩
 case grow a x hl hz hs g j ht=>cases ai.1 h;exact⟨_,_,_,rfl,f _ g⟩
 case j5 a x=>cases ai.1 h;exact⟨_,_,_,rfl,f 0 (Zaj _)⟩
 case sub a x j g=>
  obtain⟨k,b,h1⟩:=af.1 h;cases ai.1 h1;have b:=rL.1 (bu.1 b);subst b;exact⟨_,_,_,rfl,.num (jv g)⟩
 case oQ=>
  obtain⟨k,b,h1⟩:=af.1 h;cases ai.1 h1;have b:=rL.1 (bu.1 b);subst b;exact⟨_,_,_,rfl,.num (jv (Zaj _))⟩
 case list hs g j=>cases ai.1 h;exact⟨_,_,_,rfl,f _ g⟩
 case fh=>cases ai.1 h;exact⟨_,_,_,rfl,f 0 (Zaj _)⟩
def PF {ty:TypeId} (h:(QgS P D Z v).H i) (j:VR M v c) (k:Array TypeId) (o:Array Value) (h0:k[0]?=some Z) (h1:o[0]?=some c):
  ∃m,(Builtin.len_ k ty o).run P w=.ok m w/\VR M i m:=by
 obtain⟨d,g,b⟩:=af.1 h;rw[gR] at g;cases d<;>simp only at b<;>(try exact b.elim)
 case string=>
  obtain⟨l,hl,x⟩:=af.1 b;cases ai.1 x;obtain⟨rfl,f⟩:=mE hl j;have cI:(⟨⟨l⟩⟩:ByteArray).size=l.length:=rfl;exact⟨goInt l.length,by simp[Builtin.len_,h0,h1,Zza g,cI],.int (jv f)⟩
 case slice e=>
  obtain⟨y,n,cap,rfl,u⟩:=PE b j;exact⟨goInt n,by simp[Builtin.len_,h0,h1,Zza g],u⟩
 case array n e=>
  obtain⟨p,a,x⟩:=af.1 b;obtain⟨r,q⟩:=bm.1 x;cases ai.1 q;have a:=rL.1 (bu.1 a);subst a;have s:n<=1099511627776:=b9.1 r;exact⟨_,by simp[Builtin.len_,h0,h1,Zza g];rfl,.num (jv ω)⟩
def QnH (e:Ex):Exit:=match e with
 | .normal=>.normal
 | .exit id=>.exit id
 | .ret=>.ret
def PG (P:Program) (D:Data) (f:FuncId) (args:List (AV D.E)) (s:St D.E) (v:AV D.E) (a:St D.E):Prop:=s.nx<=a.nx/\(∃fn c,P.funcs[f]?=some fn/\fn.body=some c)/\
 ∀(M:Pm D) (A:Array Value) (w:World),LR M args A.toList->ey M s.h.get w->bR M s.nx a.nx->
  ∀R:Ending->World->Prop,(∀b d e,VR b v d->cL s.h.get M w a.h.get b e s.nx a.nx->R (.returned d) e)->Calls P f A w R
def yX (P:Program) (D:Data) (b:yM D.E):Prop:=∀(f:FuncId) (args:List (AV D.E)) (s:St D.E) (v:AV D.E) (a:St D.E),(b f args s).H (v,a)->PG P D f args s v a
def eB (P:Program) (o:Oper) (a:Act) (s:St D.E) (M:Pm D) (w:World) (v:AV D.E) (e:St D.E):Prop:=
 (∃d b c,((execOp a.eval o).run P w=.ok (.value b) c\/((execOp a.eval o).run P w=.ok .skip c/\b=Go.undef))/\VR d v b/\cL s.h.get M w e.h.get d c s.nx e.nx)\/
 (∃f A,(execOp a.eval o).run P w=.ok (.enter f A) w/\∀R:Ending->World->Prop,(∀d b c,VR d v b->cL s.h.get M w e.h.get d c s.nx e.nx->R (.returned b) c)->Calls P f A w R)
def eB.wp {a2:Act} (h:eB P o a s M w v s') (j:execOp a2.eval o=execOp a.eval o) (K:Act->World->Prop) (Q:Exit->Act->World->Prop)
  (g:∀b d c,VR b v d->cL s.h.get M w s'.h.get b c s.nx s'.nx->K (a2.put o.dst d) c):o.wp P a2 w K Q:=by
 unfold Oper.wp;rw[j];rcases h with⟨b,d,c,h1 | ⟨h1,rfl⟩,e,hs⟩ | ⟨f,A,h1,i⟩
 ·rw[h1];exact g b d c e hs
 ·rw[h1];exact g b Go.undef c e hs
 ·rw[h1];exact i _ λb d c e hs=>g b d c e hs
def eB.same (h:eB P o a s M w v s') (g:∀b c,VR b v c->VR b i c):eB P o a s M w i s':=by
 rcases h with⟨b,c,e,h1,d,hs⟩ | ⟨f,A,h1,d⟩
 ·exact .inl ⟨b,c,e,h1,g _ _ d,hs⟩
 ·exact .inr ⟨f,A,h1,λR k=>d R λb c e j hs=>k b c e (g _ _ j) hs⟩
def eB.value (h:(execOp a.eval o).run P w=.ok (.value c) W) (d:VR M' v c) (hs:cL s.h.get M w s'.h.get M' W s.nx s'.nx):eB P o a s M w v s':=
 .inl ⟨M',c,W,.inl h,d,hs⟩
def eB.res {r:Result Value} (d:vw s M w r v s') (h:∀b c,r=.ok b c->(execOp a.eval o).run P w=.ok (.value b) c):eB P o a s M w v s':=by
 obtain⟨g,b,c,e,f,hs⟩:=d;exact .value (h b c e) f hs
theorem eB.pure {v':Value} (b:ey M s.h.get w) (h:(execOp a.eval o).run P w=.ok (.value v') w) (c:VR M v v'):eB P o a s M w v s:=.value h c (.refl b _)
def eB.skip {r:Result Unit} (d:Qg7 s M w r s') (h:∀b,r=.ok () b->(execOp a.eval o).run P w=.ok .skip b):eB P o a s M w undef s':=by
 obtain⟨c,b,e,hs⟩:=d;exact .inl ⟨c,Go.undef,b,.inr ⟨h b e,rfl⟩,.undef,hs⟩
theorem dy {x:C (AV D.E)} (h:(iA D s x).H (v,s')):x.H v/\s'=s:=by
 obtain⟨u,hu,h1⟩:=af.1 h;grind [ai]
theorem QdL {x:C (St D.E)} (h:(QgX D x).H (v,s')):x.H s'/\v=undef:=by
 obtain⟨u,hu,h1⟩:=af.1 h;grind [ai]
theorem fY {α:Type} {x:Sem α} {f:α->Next} {v:α} {a:World} (h:x.run P W=.ok v a):(do Pure.pure (f (<-x)):Sem Next).run P W=.ok (f v) a:=by
 simp_all
theorem Qhc {x:Sem Unit} {a:World} (h:x.run P W=.ok () a):(do x;Pure.pure .skip:Sem Next).run P W=.ok .skip a:=by
 simp_all
theorem pL (h:(OT P D φ V.toList).H b) (c:FR M φ a N):LR M b (V.map a.eval).toList:=by
 grind [Array.toList_map,Pv]
theorem zW {i:Nat} (h:(OT P D φ V.toList).H b) (e:FR M φ a N) (c:gH b i=some v):∃d,(V.map a.eval)[i]?=some d/\VR M v d:=by
 rw[fe] at c;obtain⟨d,h1,f⟩:=(pL h e).get c;grind
theorem PH {i:Nat} (h:gH X.toList i=some Z):X[i]?=some Z:=by
 grind [fe]
theorem BK (G:aP D) {L:Builtin} {c:Call} (S:o.op=.call c) (R:c.callee=.builtin L) (g:(OT P D φ c.args.toList).H b) (h:(kr P D cd Y L s c.argTypes.toList b).H (v,s')) (p:ey M s.h.get w) (l:FR M φ a N) (I:bR M s.nx s'.nx):
  eB P o a s M w v s':=by
 have J:∀(x:Sem Next),(do let d <-resolve a.eval c o.type;invoke d.target d.args:Sem Next)=x->(execOp a.eval o)=x:=λx J=>by
  unfold execOp;rw[S];exact J
 have q:(execOp a.eval o)=builtin L c.argTypes o.type (c.args.map λ| .const _=>true | _=>false) (c.args.map a.eval):=J _ (by
  unfold resolve;rw[R];rfl)
 cases L<;>simp only[kr] at h<;>(try exact h.elim)
 case append=>
  obtain⟨t,ht,h1⟩:=af.1 h;obtain⟨u,hu,Q⟩:=af.1 h1;obtain⟨d,A,F⟩:=af.1 Q;obtain⟨x,f,k⟩:=af.1 F;rw[bu] at ht hu A f;obtain⟨K,m,n⟩:=zW g l A;obtain⟨C,i,j⟩:=zW g l f;have T:=Dl (ty:=o.type) G k n j p I;refine eB.res T λB O e=>?_
  rw[q];have e2:(Builtin.append_ c.argTypes o.type (c.args.map a.eval))=Builtin.append_ #[t,u] o.type #[K,C]:=by
   unfold Builtin.append_;rw[PH ht,PH hu,m,i];rfl
  exact fY (by grind)
 case copy=>
  obtain⟨t,ht,h1⟩:=af.1 h;obtain⟨d,A,F⟩:=af.1 h1;obtain⟨x,f,k⟩:=af.1 F;rw[bu] at ht A f;obtain⟨K,m,n⟩:=zW g l A;obtain⟨C,i,j⟩:=zW g l f;exact eB.res (Mg (ty:=o.type) G k n j p (PH ht) m i) λB O e=>by rw[q];exact fY e
 case len=>
  obtain⟨t,ht,h1⟩:=af.1 h;obtain⟨x,f,k⟩:=af.1 h1;rw[bu] at ht f;obtain⟨C,i,j⟩:=zW g l f;obtain⟨r,rfl⟩:=dy k;obtain⟨B,y,z⟩:=PF (P:=P) (w:=w) (ty:=o.type) r j c.argTypes (c.args.map a.eval) (PH ht) i;exact eB.pure p (by rw[q];exact fY y) z
 case min=>
  obtain⟨x,f,k⟩:=af.1 h;rw[bu] at f;obtain⟨r,rfl⟩:=dy k;obtain⟨B,y,z⟩:=Xp (P:=P) (ts:=c.argTypes) (ty:=o.type) r f (pL g l);exact eB.pure p (by rw[q];exact fY (y w)) z
 case max=>
  obtain⟨x,f,k⟩:=af.1 h;rw[bu] at f;obtain⟨r,rfl⟩:=dy k;obtain⟨B,y,z⟩:=Xq (P:=P) (ts:=c.argTypes) (ty:=o.type) r f (pL g l);exact eB.pure p (by rw[q];exact fY (y w)) z
 case clear=>
  obtain⟨t,ht,h1⟩:=af.1 h;obtain⟨x,f,k⟩:=af.1 h1;rw[bu] at ht f;obtain⟨C,i,j⟩:=zW g l f;exact eB.res (Dr (ty:=o.type) G k j p (PH ht) i) λB O e=>by rw[q];exact fY e
def yY (P:Program):Prop:=∀(f:FuncId) (fn:Func),P.funcs[f]?=some fn->(fn.name== "runtime.NumGoroutine" &&fn.body.isSome)=false
theorem Ka (h:(Da D v).H Y) (a:VR M v c):c=.bool Y:=by
 cases a<;>simp only[Da] at h<;>(try exact h.elim)
 all_goals grind [vt,ai]
theorem PI (hD:aP D) {mu:Bool} {ex:yM D.E} {o:Oper} {v:AV D.E} (OH:yY P) (hex:yX P D ex) (h:(ei P D cd mu o.op ex s φ).H (v,s')) (hS:ey M s.h.get w) (hf:FR M φ a N) (hfr:bR M s.nx s'.nx):eB P o a s M w v s':=by
 cases ho:o.op<;>rw[ho] at h<;>simp only[ei] at h<;>(try exact h.elim)
 case move x=>
  obtain⟨h1,rfl⟩:=dy h;exact eB.pure hS (by unfold execOp;rw[ho];rfl) (dW h1 hf)
 case assign x=>
  obtain⟨h1,rfl⟩:=dy h;exact eB.pure hS (by unfold execOp;rw[ho];rfl) (dW h1 hf)
 case pick c x y=>
  obtain⟨vc,hc,h1⟩:=af.1 h;obtain⟨vx,hx,h2⟩:=af.1 h1;obtain⟨vy,hy,h3⟩:=af.1 h2;obtain⟨h4,rfl⟩:=dy h3;obtain⟨t,ht,h5⟩:=af.1 h4;have et:=Ka ht (dW hc hf);rcases im.1 h5 with⟨rfl,h6⟩ | ⟨rfl,h6⟩
  ·cases ai.1 h6;exact eB.pure hS (by grind [execOp,Go.asBool,Sem.run_pure]) (dW hx hf)
  ·cases ai.1 h6;exact eB.pure hS (by grind [execOp,Go.asBool,Sem.run_pure]) (dW hy hf)
 case alloc e=>
  obtain⟨z,hz,h1⟩:=af.1 h;obtain⟨it,z',hit,hzz,hzv⟩:=mB hz;refine eB.res (zQ (P:=P) (C:=z'.cells) h1 hS hfr (fi (hzv M))) λv' w' e1=>?_
  unfold execOp;rw[ho];refine fY ?_;unfold Instr.alloc newVar;simp only[Zzd,rN hit hzz,Zzb];exact e1
 case box e x=>
  obtain⟨u,hu,h1⟩:=af.1 h;refine eB.res (zQ (P:=P) (C:=(a.eval x).cells) h1 hS hfr (fi (dW hu hf))) λv' w' e1=>?_
  unfold execOp;rw[ho];exact fY e1
 case build t parts=>
  obtain⟨h1,rfl⟩:=dy h;obtain⟨v',h2,h3⟩:=Dp h1 hf;exact eB.pure hS (by unfold execOp;rw[ho];exact fY (h2 w)) h3
 case buildSlice t len parts=>
  exact eB.res (yU hD h hf hS hfr) λv' w' e1=>by unfold execOp;rw[ho];exact fY e1
 case load t x=>
  obtain⟨u,hu,h1⟩:=af.1 h;obtain⟨h3,rfl⟩:=dy h1;obtain⟨v',ad,e1,h4,_,h5⟩:=zJ (P:=P) hD h3 (dW hu hf) hS;exact eB.pure hS (by unfold execOp;rw[ho];exact fY h4) h5
 case store t x y=>
  obtain⟨vx,hx,h1⟩:=af.1 h;obtain⟨vy,hy,h2⟩:=af.1 h1;obtain⟨h3,rfl⟩:=QdL h2;exact eB.skip (Dj hD h3 (dW hx hf) (dW hy hf) hS) λw' e1=>by unfold execOp;rw[ho];exact Qhc e1
 case nilCheck x=>
  obtain⟨u,hu,h1⟩:=af.1 h;obtain⟨h2,rfl⟩:=dy h1;obtain⟨h3,rfl⟩:=Ml (P:=P) h2 (dW hu hf) w;grind [eB.pure,execOp,dW]
 case binOp op t x y yt=>
  obtain⟨vx,hx,h1⟩:=af.1 h;obtain⟨vy,hy,h2⟩:=af.1 h1;obtain⟨h3,rfl⟩:=dy h2;obtain⟨v',h4,h5⟩:=PD h3 (dW hx hf) (dW hy hf) w;exact eB.pure hS (by unfold execOp;rw[ho];exact fY h4) h5
 case unOp op t x=>
  obtain⟨vx,hx,h1⟩:=af.1 h;obtain⟨h3,rfl⟩:=dy h1;obtain⟨v',h4,h5⟩:=Xo (P:=P) h3 (dW hx hf);exact eB.pure hS (by unfold execOp;rw[ho];exact fY (h4 w)) h5
 case convert src dst x=>
  obtain⟨vx,hx,h1⟩:=af.1 h;exact eB.res (GD hD h1 (dW hx hf) hS hfr) λv' w' e1=>by unfold execOp;rw[ho];exact fY e1
 case makeInterface t x=>
  obtain⟨vx,hx,h1⟩:=af.1 h;obtain⟨h3,rfl⟩:=dy h1;obtain⟨v',h4,h5⟩:=Dw h3 (dW hx hf);exact eB.pure hS (by unfold execOp;rw[ho];exact fY (h4 w)) h5
 case makeFunc fn first captured=>
  obtain⟨vf,h1,h2⟩:=af.1 h;obtain⟨vc,h3,h4⟩:=af.1 h2;cases ai.1 h4;have l1:=pL h1 hf;have l2:=pL h3 hf;exact eB.pure hS (by unfold execOp;rw[ho];exact fY rfl) (.func fn l1.1 l1.2 l2.1 l2.2)
 case makeSlice t l c=>
  obtain⟨vl,hl,h1⟩:=af.1 h;obtain⟨vc,hc,h2⟩:=af.1 h1;exact eB.res (BH hD h2 (dW hl hf) (dW hc hf) hS hfr) λv' w' e1=>by unfold execOp;rw[ho];exact fY e1
 case slice t x lo hi mx=>
  obtain⟨vx,hx,h1⟩:=af.1 h;obtain⟨vl,hl,h2⟩:=af.1 h1;obtain⟨vh,hh,h3⟩:=af.1 h2;obtain⟨vm,hm,h4⟩:=af.1 h3;obtain⟨h5,rfl⟩:=dy h4;obtain⟨v',h6,h7⟩:=GF hD h5 (dW hx hf) (.map hl hf) (.map hh hf) (.map hm hf);exact eB.pure hS (by unfold execOp;rw[ho];exact fY (h6 w)) h7
 case fieldAddr t x f=>
  obtain⟨vx,hx,h1⟩:=af.1 h;obtain⟨h3,rfl⟩:=dy h1;obtain⟨v',h4,h5⟩:=uM h3 (dW hx hf);exact eB.pure hS (by unfold execOp;rw[ho];exact fY (h4 w)) h5
 case field t x f=>
  obtain⟨vx,hx,h1⟩:=af.1 h;obtain⟨h3,rfl⟩:=dy h1;obtain⟨v',h4,h5⟩:=Du h3 (dW hx hf);exact eB.pure hS (by unfold execOp;rw[ho];exact fY (h4 w)) h5
 case indexAddr t x i=>
  obtain⟨vx,hx,h1⟩:=af.1 h;obtain⟨vi,hi,h2⟩:=af.1 h1;obtain⟨h3,rfl⟩:=dy h2;obtain⟨v',h4,h5⟩:=yV h3 (dW hx hf) (dW hi hf);exact eB.pure hS (by unfold execOp;rw[ho];exact fY (h4 w)) h5
 case index t x i=>
  obtain⟨vx,hx,h1⟩:=af.1 h;obtain⟨vi,hi,h2⟩:=af.1 h1;obtain⟨h3,rfl⟩:=dy h2;obtain⟨v',h4,h5⟩:=Dv h3 (dW hx hf) (dW hi hf);exact eB.pure hS (by unfold execOp;rw[ho];exact fY (h4 w)) h5
 case extract x i=>
  obtain⟨vx,hx,h1⟩:=af.1 h;obtain⟨h3,rfl⟩:=dy h1;obtain⟨v',h4,h5⟩:=yW (P:=P) h3 (dW hx hf);exact eB.pure hS (by unfold execOp;rw[ho];exact fY (h4 w)) h5
 case call c=>
  cases hc:c.callee with
  | builtin b=>
   rw[hc] at h;obtain⟨vs,hvs,h1⟩:=af.1 (show(av (OT P D φ c.args.toList) λvs=>kr P D cd mu b s c.argTypes.toList vs).H (v,s') from h);grind [BK]
  | invoke r m=>rw[hc] at h;exact(h:False).elim
  | value x=>
   rw[hc] at h;obtain⟨f,args,h1,h2⟩:=bh.1 (show(aI (Qbs P D φ x c) λf args=>ex f args s).H (v,s') from h);obtain⟨u,hu,h3⟩:=af.1 h1;obtain⟨f',p,hfn,h4⟩:=bh.1 h3;obtain⟨QwF,has,h5⟩:=af.1 h4;obtain⟨fs,cs⟩:=p;have h5:=ai.1 h5;simp only[Zbx] at h5;obtain⟨rfl,rfl⟩:=h5;rw[fE,fE] at h2;have hv:=dW hu hf;have hfun:∃(F C:Array Value),a.eval x=.func (.func f') F C/\LR M fs F.toList/\LR M cs C.toList:=by
    generalize a.eval x=xv at hv;cases hv<;>simp only[QgY] at hfn<;>(try exact hfn.elim)
    rename_i fn _ _ _ _ g1 g2 g3 g4
    cases fn<;>simp only at hfn<;>(try exact hfn.elim);have hfn:=ai.1 hfn;simp only[Zbx] at hfn;obtain⟨rfl,rfl,rfl⟩:=hfn;exact⟨_,_,rfl,⟨g1,g2⟩,⟨g3,g4⟩⟩
   obtain⟨F,C,e1,l1,l2⟩:=hfun
   have hl:LR M (fs++(QwF++cs)) (F++c.args.map a.eval++C).toList:=by
    rw[Array.toList_append,Array.toList_append,ZaD];exact l1.app ((pL has hf).app l2)
   obtain⟨_,⟨fn,body,g1,g2⟩,hcall⟩:=hex f' _ s v s' h2;have hcall:=hcall M _ w hl hS hfr;have hn:(fn.name== "runtime.NumGoroutine")=false:=by
    have:=OH f' fn g1;grind
   have hrun:(execOp a.eval o).run P w=.ok (.enter f' (F++c.args.map a.eval++C)) w:=by
    unfold execOp;rw[ho];simp only[resolve,hc,e1,Deferred.ofValue,Zzd,Zzc,Zzb,invoke,callFunc,program,Sem.run,g1,hn,ZaE,Za0,g2,Option.isNone_some]
   exact .inr ⟨f',_,hrun,hcall⟩
end
section
variable {P:Program} {D:Data} {cd:TypeId->Option Nat} {M M':Pm D} {φ φ':T (AV D.E)} {a:Act} {N:Nat} {w:World} {s s':St D.E}
variable {v:AV D.E} {b:Bool} {d:Option Tmp} {Z:Array Oper} {Y:yM D.E}
theorem wL (a:Act) (d:Option Tmp) (v:Value) (t:Tmp) (h:∀x,d=some x->x<a.tmps.size):(a.put d v).tmps.getD t Go.undef=if d=some t then v else a.tmps.getD t Go.undef:=by
 cases d with
 | none=>rw[Zaa (by simp)];rfl
 | some x=>
  show(a.tmps.setIfInBounds x v).getD t Go.undef=_
  rw[ZaT,ZaT];grind
theorem zX (h:(wu D N φ d v).H φ'):(∀x,d=some x->x<N)/\∀t,φ'.get t=if d=some t then some v else φ.get t:=by
 cases d with
 | none=>cases ai.1 (show(C.ret φ).H φ' from h);exact⟨λx b=>(nomatch b),λt=>by simp⟩
 | some x=>
  obtain⟨h1,a⟩:=bm.1 (show(bB (Nat.ble (x+1) N) (cE (φ.put x (some v)))).H φ' from h);rw[bu] at a;refine⟨λy c=>by grind [b9],λt=>?_⟩;rw[T.dU _ _ _ _ a t];grind
def Dx (a:Act) (d:Option Tmp) (v:Value):(a.put d v).tmps.size=a.tmps.size:=by cases d<;>simp[Act.put]
def wM (a:Act) (d:Option Tmp) (v:Value):(a.put d v).defers=a.defers:=by cases d<;>rfl
theorem Kb {c:Value} (h:(wu D N φ d v).H φ') (b:FR M φ a N) (i:VR M v c):FR M φ' (a.put d c) N:=by
 obtain⟨h1,f⟩:=zX h;refine⟨λt u hu=>?_,by rw[Dx,b.size],by rw[wM,b.defers]⟩;rw[wL a d c t (λx g=>by rw[b.size];exact h1 x g)];rw[f] at hu;by_cases e:d=some t
 ·grind
 ·rw[Zaa e] at hu;rw[Zaa e];exact b.at_ t u hu
def vB (v:Value):Option Bool:=match v with
 | .bool b=>some b
 | _=>none
def Kc {wt:Bool} {a:Value} (h:(JV D b v).H wt) (d:VR M v a):(vB a==some b)=wt:=by
 cases d<;>simp only[JV] at h
 case bool c=>
  rcases vt.1 h with⟨rfl,h1⟩ | ⟨rfl,h1⟩<;>cases ai.1 h1<;>cases b<;>rfl
 case lit c=>
  have h:=ai.1 h;cases c<;>cases b<;>cases wt<;>first | rfl | cases h
 all_goals assumption
theorem pM {o:Oper} (h:(mw D Z.toList φ o).H b) (m:FR M φ a N):Region.wanted o (yielded Z a.tmps)=b:=by
 unfold mw at h;unfold Region.wanted;cases d:o.guard with
 | none=>rw[d] at h;exact ai.1 h
 | some p=>
  rw[d] at h;obtain⟨j,wt⟩:=p;show(yielded Z a.tmps j==some wt)=b
  obtain⟨v,n,e⟩:=af.1 (show(av (cE (yA D Z.toList φ j)) λv=>JV D wt v).H b from h);obtain⟨q,h1,g⟩:=aB.1 (show oB (gH Z.toList j) (λo=>oB o.dst λt=>φ.get t)=some v from bu.1 n);obtain⟨t,i,k⟩:=aB.1 g;rw[fe,ZaL] at h1;have c:=m.at_ t v k;rw[ZaT] at c;unfold yielded;rw[h1,ZcE,i,ZcE];cases f:a.tmps[t]? with
  | none=>rw[f] at c;exact Kc e c
  | some u=>
   rw[f] at c;have l:=Kc e (show VR M v u from c);cases u<;>exact l
def PJ {e:AV D.E} (h:(settle D v).H e):∀a b,VR a v b->VR a e b:=by
 intro a b d;cases v<;>simp only[settle] at h<;>try (cases ai.1 h;exact d)
 rcases vt.1 h with⟨c,h1⟩ | ⟨c,h1⟩<;>subst c<;>cases ai.1 h1<;>cases d
 ·exact .lit true
 ·exact .lit false
theorem BL (d:aP D) {g:Bool} {o:Oper} (c:yY P) (hex:yX P D Y) (h:(JW P D cd b g o.op Y s φ).H (v,s')) (e:ey M s.h.get w) (f:FR M φ a N) (mu:bR M s.nx s'.nx):eB P o a s M w v s':=by
 unfold JW at h;cases g with
 | false=>exact PI d c hex h e f mu
 | true=>
  obtain⟨m,l,h1,i⟩:=bh.1 (show(aI (ei P D cd b o.op Y s φ) λv s=>av (settle D v) λv=>.ret (v,s)).H (v,s') from h);obtain⟨n,j,k⟩:=af.1 i;cases ai.1 k;exact(PI d c hex h1 e f mu).same (PJ j)
theorem s9 (F:aP D) (m:yY P) (hex:yX P D Y):∀(l:List Oper) (i:Nat) (s:St D.E) (φ:T (AV D.E)) (e:St D.E) (c:T (AV D.E)),(wv P D cd b Y Z.toList N l i s φ).H (e,c)->s.nx<=e.nx/\
  ∀(M:Pm D) (a:Act) (w:World),ey M s.h.get w->FR M φ a N->bR M s.nx e.nx->∀Q:Exit->Act->World->Prop,
   (∀x y z,cL s.h.get M w e.h.get x z s.nx e.nx->FR x c y N->Q .normal y z)->wpList P Z Q l a w
 | [],i,s,φ,e,c,h=>by
  cases ai.1 (show(C.ret (s,φ)).H (e,c) from h);exact⟨Zah _,λM a w r k _ Q q=>q M a w (.refl r _) k⟩
 | o::l,i,s,φ,e,c,h=>by
  obtain⟨mu,hw,h0⟩:=af.1 (show(av (mw D Z.toList φ o) λmu=>bE mu
   (aI (JW P D cd b (guards Z.toList i) o.op Y s φ) λv n=>av (wu D N φ o.dst v) λφ=>bB (Nat.ble s.nx n.nx) (wv P D cd b Y Z.toList N l (Nat.succ i) n φ))
   (av (wu D N φ o.dst undef) λφ=>wv P D cd b Y Z.toList N l (Nat.succ i) s φ)).H (e,c) from h)
  rcases im.1 h0 with⟨rfl,h1⟩ | ⟨rfl,h1⟩
  ·obtain⟨v,n,U,V⟩:=bh.1 h1;obtain⟨p,A,B⟩:=af.1 V;obtain⟨W,X⟩:=bm.1 B;have S:s.nx<=n.nx:=b9.1 W;obtain⟨j,d⟩:=s9 F m hex l _ n p e c X;refine⟨ω,λM a w r k f Q q=>?_⟩;have t:bR M s.nx n.nx:=λmu O R=>f mu O ω
   have K:=BL (o:=o) F m hex U r k t;unfold wpList;rw[Zac (pM hw k)];refine .inl (K.wp rfl _ _ λL v' ops ex g=>?_);have G:=g.Le t;have I:bR L n.nx e.nx:=λmu O R=>by rw[g.ext mu ω];exact f mu ω R
   refine d L _ ops g.gn (Kb A (k.mono G) ex) I Q λx y z u J=>q x y z (g.trans u) J
  ·obtain⟨p,A,B⟩:=af.1 h1;obtain⟨j,d⟩:=s9 F m hex l _ s p e c B;refine⟨j,λM a w r k f Q q=>?_⟩;unfold wpList;rw[Zaa (by grind [pM])];exact d M _ w r (Kb A k .undef) f Q q
end
variable {Z:List Nat}
def QdM (m i:Nat):Nat.beq (Nat.mod (Nat.div m (Nat.pow 2 i)) 2) 1=m.testBit i:=by
 rw[Nat.testBit_eq_decide_div_mod_eq,ZaG,aF,ZbP];exact ZbW
theorem rW {i j m:Nat} (h:Z[j]?=some m):j4 Z i j=m.testBit i:=by
 unfold j4;rw[fe,h];exact QdM m i
theorem Dy {i j:Nat} (h:Z[j]?=none):j4 Z i j=false:=by
 unfold j4;rw[fe,h]
theorem oV:∀{es:List Edge} {ms:List Nat} {m0 m:Nat},wk ms es m0=some m->
  (∀e∈es,Region.binds .any e->e.on<ms.length)/\∀i,m.testBit i↔(m0.testBit i\/∃e∈es,Region.binds .any e/\(e.on=i\/j4 ms i e.on))
 | [],ms,m0,m,h=>by cases(show some m0=some m from h);simp
 | e::es,ms,m0,m,h=>by
  rcases BB.1 (show oE (Region.binds .any e) (oB (gH ms e.on) λk=>wk ms es (Nat.lor (Nat.lor m0 (Nat.pow 2 e.on)) k)) (wk ms es m0)=some m from h) with⟨d,h1⟩ | ⟨d,h1⟩
  ·obtain⟨k,hk,c⟩:=aB.1 h1;rw[fe] at hk;obtain⟨l,b⟩:=oV c;have j:e.on<ms.length:=(Zam.1 hk).1;refine⟨λn g f=>?_,λi=>?_⟩
   ·grind
   ·rw[b i];have a:(Nat.lor (Nat.lor m0 (Nat.pow 2 e.on)) k).testBit i=(m0.testBit i||decide (e.on=i)||j4 ms i e.on):=by
     show((m0||| 2 ^ e.on)||| k).testBit i=_
     grind [rW]
    grind
  ·obtain⟨l,b⟩:=oV h1;grind
structure nD (L:List Oper) (ms:List Nat):Prop where
 len:ms.length=L.length
 QdN:∀(j:Nat) (o:Oper) (e:Edge),L[j]?=some o->e∈o.after.toList->Region.binds .any e=true->e.on<j/\j4 ms e.on j=true/\∀i,j4 ms i e.on=true->j4 ms i j=true
 back:∀i j,j4 ms i j=true->∃(o:Oper) (e:Edge),L[j]?=some o/\e∈o.after.toList/\Region.binds .any e=true/\e.on<j/\(e.on=i\/j4 ms i e.on=true)
variable {Z:List Nat} {L:List Oper}
theorem rX {m i j:Nat} (h:j<Z.length):j4 (Z++[m]) i j=j4 Z i j:=by
 have h1:Z[j]?=some Z[j]:=Zaf h;rw[rW h1,rW (by rw[Zat h];exact h1)]
theorem wN:∀{os pre:List Oper} {ms g:List Nat},JT os ms=some g->nD pre ms->nD (pre++os) g
 | [],pre,ms,g,h,l=>by cases(show some ms=some g from h);rw[Zaw];exact l
 | o::os,pre,ms,g,h,l=>by
  obtain⟨m,v,h1⟩:=aB.1 (show oB (wk ms o.after.toList 0) (λm=>JT os (nm ms [m]))=some g from h);rw[fE] at h1;obtain⟨x,w⟩:=oV v;have q:∀i,j4 (ms++[m]) i ms.length↔∃e∈o.after.toList,Region.binds .any e/\(e.on=i\/j4 ms i e.on):=λi=>by
   rw[rW (m:=m) (by simp),w i];simp
  have hlen:=l.len;have key:nD (pre++[o]) (ms++[m]):=by
   refine⟨by grind,λj s e r u t=>?_,λi j k=>?_⟩
   ·by_cases p:j<pre.length
    ·rw[Zat p] at r;obtain⟨a,b,c⟩:=l.QdN j s e r u t;grind [rX]
    ·have n:j=pre.length:=by
      grind
     grind [rX]
   ·by_cases p:j<pre.length
    ·rw[rX ω] at k;obtain⟨s,e,a,b,c,d,f⟩:=l.back i j k;grind [rX]
    ·by_cases n:j=ms.length
     ·grind [rX]
     ·grind [Dy]
  have:=wN (pre:=pre++[o]) h1 key;grind
theorem PK (h:JT L []=some Z):nD L Z:=by
 have:=wN (pre:=[]) h ⟨rfl,λj o e b=>by grind,λi j a=>by grind [Dy]⟩;assumption
theorem nD.lt (h:nD L Z):∀{j i:Nat},j4 Z i j->i<j:=by
 intro j
 induction j using Nat.strongRecOn with
 | _ j d=>
  intro i a;obtain⟨o,e,_,_,_,b,c⟩:=h.back i j a;grind
theorem nD.trans (h:nD L Z):∀{j k i:Nat},j4 Z i k->j4 Z k j->j4 Z i j:=by
 intro j
 induction j using Nat.strongRecOn with
 | _ j n=>
  intro k i d a;obtain⟨o,e,g,c,b,f,m⟩:=h.back k j a;obtain⟨_,_,l⟩:=h.QdN j o e g c b;grind
theorem wO {α:Type} {f:Nat->α->Bool}:∀{l:List α} {i:Nat},JU f l i->∀j x,l[j]?=some x->f (i+j) x
 | [],i,h,j,x,d=>by grind
 | a::l,i,h,j,x,d=>by
  have b:Bool.rec (motive:=λ_=>Bool) false (JU f l (i+1)) (f i a):=h;cases c:f i a with
  | false=>rw[c] at b;cases b
  | true=>
   rw[c] at b;cases j with
   | zero=>simp at d;subst d;exact c
   | succ j=>
    have:=wO (f:=f) b j x (by assumption);grind
theorem wP {α:Type} {f:α->Bool}:∀{l:List α},Bk f l↔∃x∈l,f x
 | []=>by simp[Bk]
 | a::l=>by
  show Bool.rec (motive:=λ_=>Bool) (Bk f l) true (f a)↔_
  have:=wP (f:=f) (l:=l);cases h:f a<;>simp[h,this]
def Reads (L:List Oper) (o:Oper) (t:Tmp):Prop:=some t∈pG L o
theorem zY {o:Oper} {t:Tmp}:Reads L o t↔reads L o t:=by
 unfold Reads pG reads;rw[pH,Zbf,ZcL];have h1:(Bk (Bp t) o.op.operands.toList)↔∃x∈o.op.operands.toList,O' x=some t:=by
  rw[wP];constructor
  ·rintro⟨x,a,h⟩;refine⟨x,a,?_⟩;cases x<;>simp only[Bp] at h<;>(try cases h);rw[aF.1 h];rfl
  ·rintro⟨x,a,h⟩;refine⟨x,a,?_⟩;cases x<;>simp only[O'] at h<;>cases h;exact ZdY _
 rw[<-h1];generalize Bk (Bp t) o.op.operands.toList=b;cases Bq L o with
 | none=>cases b<;>simp
 | some g=>
  grind [aF]
structure wQ (P:Program) (L:List Oper) (ms:List Nat):Prop extends nD L ms where
 rd:∀(i j:Nat) (oi oj:Oper) (d:Tmp),L[i]?=some oi->L[j]?=some oj->i≠j->oj.dst=some d->Reads L oi d->j4 ms i j=true\/j4 ms j i=true
 wr:∀(i j:Nat) (oi oj:Oper) (d:Tmp),L[i]?=some oi->L[j]?=some oj->i≠j->oj.dst=some d->oi.dst≠some d
 eff:∀(i j:Nat) (oi oj:Oper),L[i]?=some oi->L[j]?=some oj->i≠j->iB P oi=3->iB P oj=3->j4 ms i j=true\/j4 ms j i=true
 yS:∀(i:Nat) (oi:Oper),L[i]?=some oi->∀cs b,oi.op≠.select cs b
 gd:∀(i:Nat) (oi:Oper) (g:Nat) (b:Bool),L[i]?=some oi->oi.guard=some (g,b)->j4 ms g i=true
theorem yZ {P:Program} {L:List Oper} {ms:List Nat} (h:Db P L=some ms):wQ P L ms:=by
 obtain⟨u,t,h1⟩:=aB.1 h;obtain⟨v,s⟩:=lI.1 h1;cases s;have o:=PK t;have hi:∀i a,L[i]?=some a->O8 a/\Br ms i a/\∀j c,L[j]?=some c->O7 P L ms i j a c:=λi a k=>by
  grind [wO]
 have p:∀i j a c,L[i]?=some a->L[j]?=some c->i≠j->(∀d,c.dst=some d->(ordered ms i j\/reads L a d=false)/\a.dst≠some d)/\((iB P a=3/\iB P c=3)->ordered ms i j):=by
  intro i j a c k l f;rcases or2 ((hi i a k).2.2 j c l) with m | m
  ·simp_all
  ·obtain⟨r,w⟩:=l4 m;refine⟨λd n=>?_,λ⟨q,e2⟩=>?_⟩
   ·rw[n] at r;obtain⟨x,y⟩:=l4 r;refine⟨?_,λe=>?_⟩
    ·grind
    ·simp_all
   ·simp_all
 refine⟨o,λi j a c d k l f n A=>?_,λi j a c d k l f n=>((p i j a c k l f).1 d n).2,λi j a c k l f q e2=>or2 ((p i j a c k l f).2 ⟨q,e2⟩),λi a k cs b e=>?_,λi a g b k z=>?_⟩
 ·rcases((p i j a c k l f).1 d n).1 with m | m
  ·exact or2 m
  ·grind [zY]
 ·grind [O8]
 ·have:=(hi i a k).2.1;unfold Br at this;simp_all
section
variable {P:Program} {D:Data} {cd:TypeId->Option Nat} {mu:Bool} {ex:yM D.E} {L:List Oper} {N:Nat} {ms:List Nat}
theorem nE {φ:T (AV D.E)}:∀{c:List (Option Tmp)} {b a:T (AV D.E)},(zx D φ c b).H a->∀t,a.get t=if some t∈c/\φ.get t≠none then φ.get t else b.get t
 | [],b,a,h,t=>by cases ai.1 (show(C.ret b).H a from h);simp
 | none::c,b,a,h,t=>by
  rw[nE (show(zx D φ c b).H a from h) t];simp
 | some x::c,b,a,h,t=>by
  have d:(Option.rec (motive:=λ_=>C (T (AV D.E))) (zx D φ c b) (λv=>av (cE (b.put x (some v))) λb=>zx D φ c b) (φ.get x):C (T (AV D.E))).H a:=h;cases e:φ.get x with
  | none=>
   rw[e] at d;rw[nE d t];grind
  | some v=>
   rw[e] at d;obtain⟨g,h1,f⟩:=af.1 d;rw[bu] at h1;rw[nE f t,T.dU _ _ _ _ h1 t];grind
def PHI (L:List Oper) (a:T (AV D.E)) (rs:List (Rc D)) (φ:T (AV D.E)):Prop:=
 (∀(j:Nat) (r:Rc D) (o:Oper) (d:Tmp),rs[j]?=some r->L[j]?=some o->o.dst=some d->φ.get d=some r.v)/\∀t,(∀(j:Nat) (r:Rc D) (o:Oper),rs[j]?=some r->L[j]?=some o->o.dst≠some t)->φ.get t=a.get t
def fO (es:List Nat) (k:Nat):Nat:=match k with
 | 0=>0
 | k+1=>es.getD k 0+1
structure PL (P:Program) (D:Data) (cd:TypeId->Option Nat) (mu:Bool) (ex:yM D.E) (L:List Oper) (ms:List Nat) (φ0:T (AV D.E)) (rs:List (Rc D)) (hs:List (T (AO D.E))) (es:List Nat) (i:Nat) (o:Oper) (r:Rc D):Prop where
 op:r.o=o
 le:r.lo<=r.hi
 fr:∃φ,PHI L φ0 (rs.take i) φ/\∀t,(Reads L o t->r.φ.get t=φ.get t)/\(¬Reads L o t->r.φ.get t=none)
 kind:(r.cls=0/\(mw D L r.φ o).H false/\r.v=undef/\r.hi=r.lo)\/
  (r.cls=1/\(mw D L r.φ o).H true/\iB P o=1/\(JW P D cd mu r.g o.op Xc ⟨.nil,r.lo⟩ r.φ).H (r.v,⟨r.pc,r.hi⟩)/\r.hi<=r.lo+1)\/
  (r.cls=2/\(mw D L r.φ o).H true/\iB P o=2/\r.hi=r.lo)\/
  (r.cls=3/\(mw D L r.φ o).H true/\iB P o=3/\∃(k:Nat) (h h' K:T (AO D.E)) (last:Nat),es[k]?=some i/\hs[k]?=some h/\hs[k+1]?=some h'/\last=fO es k/\
   (kF D (λj=>Bool.and (j4 ms j i) (bU ms last j)) (rs.take i) 0 h).H K/\(JW P D cd mu r.g o.op ex ⟨K,r.lo⟩ r.φ).H (r.v,⟨h',r.hi⟩))
structure oW (P:Program) (D:Data) (cd:TypeId->Option Nat) (mu:Bool) (ex:yM D.E) (L:List Oper) (N:Nat) (ms:List Nat) (φ0:T (AV D.E)) (s:St D.E) (i:Nat) (d:Ds D):Prop where
 len:d.rs.length=i
 phi:PHI L φ0 d.rs d.φ
 rc:∀(j:Nat) (o:Oper) (r:Rc D),L[j]?=some o->d.rs[j]?=some r->PL P D cd mu ex L ms φ0 d.rs d.hs d.es j o r
 rB:d.hs.length=d.es.length+1
 cur:d.hs[d.es.length]?=some d.h
 h0:d.hs[0]?=some s.h
 last:d.last=fO d.es d.es.length
 esr:∀(k e:Nat),d.es[k]?=some e->e<i/\∃r,d.rs[e]?=some r/\r.cls=3
 ese:∀(e:Nat) (r:Rc D),d.rs[e]?=some r->r.cls=3->∃k:Nat,d.es[k]?=some e
 inc:∀k l e f:Nat,k<l->d.es[k]?=some e->d.es[l]?=some f->e<f
 oX:s.nx<=d.nx/\∀(j:Nat) (r:Rc D),d.rs[j]?=some r->s.nx<=r.lo/\r.hi<=d.nx
 apart:∀(j k:Nat) (r q:Rc D),j<k->d.rs[j]?=some r->d.rs[k]?=some q->r.hi<=q.lo
 dst:∀(j:Nat) (o:Oper) (d':Tmp),j<i->L[j]?=some o->o.dst=some d'->d'<N
variable {i:Nat} {U:T (AV D.E)} {o:Oper} {s:St D.E} {A:List (T (AO D.E))} {y:List Nat}
theorem PL.grow {rs e:List (Rc D)} {d:List (T (AO D.E))} {c:List Nat} {r:Rc D} (h:PL P D cd mu ex L ms U rs A y i o r) (h1:e.take i=rs.take i) (g:∀(k:Nat) (x:T (AO D.E)),A[k]?=some x->d[k]?=some x) (p:∀(k x:Nat),y[k]?=some x->c[k]?=some x):PL P D cd mu ex L ms U e d c i o r:=by
 refine⟨h.op,h.le,by rw[h1];exact h.fr,?_⟩;rcases h.kind with k | k | k | ⟨k1,k2,k3,k,a,b,K,last,j,e2,l,m,q,n⟩
 ·grind
 ·grind
 ·grind
 ·refine .inr (.inr (.inr ⟨k1,k2,k3,k,a,b,K,last,p _ _ j,g _ _ e2,g _ _ l,?_,by grind,n⟩));cases k with
  | zero=>exact m
  | succ k=>
   grind [fO]
theorem fZ {α:Type} {l:List α} {a:α} {x:α} (h:(l++[a])[i]?=some x):(l[i]?=some x)\/(i=l.length/\x=a):=by
 grind
theorem PM {α:Type} {l:List α} {a:α} {x:α} (h:l[i]?=some x):(l++[a])[i]?=some x:=by
 grind
theorem oW.step {d:Ds D} {r:Rc D} {S C:T (AV D.E)} (a:oW P D cd mu ex L N ms U s i d) (hL:wQ P L ms) (ho:L[i]?=some o) (hψ:(zx D d.φ (pG L o) .nil).H C)
  (hφ:(wu D N d.φ o.dst r.v).H S) (hr1:r.o=o) (R:r.φ=C) (hr3:r.lo=d.nx) (hr4:r.lo<=r.hi) {M:T (AO D.E)} {m:Nat}
  (G:(r.cls≠3/\M=d.h/\A=d.hs/\y=d.es/\m=d.last)\/(r.cls=3/\A=d.hs++[M]/\y=d.es++[i]/\m=i+1))
  (kind:(r.cls=0/\(mw D L C o).H false/\r.v=undef/\r.hi=r.lo)\/
   (r.cls=1/\(mw D L C o).H true/\iB P o=1/\(JW P D cd mu r.g o.op Xc ⟨.nil,r.lo⟩ C).H (r.v,⟨r.pc,r.hi⟩)/\r.hi<=r.lo+1)\/
   (r.cls=2/\(mw D L C o).H true/\iB P o=2/\r.hi=r.lo)\/
   (r.cls=3/\(mw D L C o).H true/\iB P o=3/\∃K,(kF D (λj=>Bool.and (j4 ms j i) (bU ms d.last j)) d.rs 0 d.h).H K/\(JW P D cd mu r.g o.op ex ⟨K,r.lo⟩ C).H (r.v,⟨M,r.hi⟩))):
  oW P D cd mu ex L N ms U s (i+1) ⟨S,M,A,r.hi,m,y,d.rs++[r]⟩:=by
 obtain⟨p1,p2⟩:=zX hφ;have hlen:=a.len;have J:∀(k:Nat) (x:T (AO D.E)),d.hs[k]?=some x->A[k]?=some x:=λk x hx=>by
  grind
 have Z:∀(k x:Nat),d.es[k]?=some x->y[k]?=some x:=λk x hx=>by
  grind
 have u:∀j,j<=i->(d.rs++[r]).take j=d.rs.take j:=λj O=>by grind
 have htl:d.rs.take i=d.rs:=ZaA ω;refine⟨by grind,⟨λj q B V c b z=>?_,λt ht=>?_⟩,λj B q b c=>?_,?_,?_,?_,?_,λk e n=>?_,λe q c hc=>?_,λk l e f Q n X=>?_,⟨by have:=a.oX.1;simp only;omega,λj q c=>?_⟩,λj k q p hjk c hp=>?_,λj B V O b z=>?_⟩
 ·rw[p2];rcases fZ c with c | ⟨rfl,rfl⟩
  ·have O:j<i:=by grind
   rw[Zaa (λe=>hL.wr i j o B V ho b ω z e)];exact a.phi.1 j q B V c b z
  ·grind
 ·rw[p2];rw[Zaa (ht i r o (by simp[hlen]) ho)];exact a.phi.2 t λj q B c b=>ht j q B (PM c) b
 ·rcases fZ c with c | ⟨rfl,rfl⟩
  ·have O:j<i:=by grind
   exact(a.rc j B q b c).grow (u j ω) J Z
  ·rw[hlen] at b ⊢;rw[ho] at b;cases b;refine⟨hr1,hr4,⟨d.φ,by rw[u i (Zah _),htl];exact a.phi,λt=>?_⟩,?_⟩
   ·rw[R,nE hψ t,T.get_nil];unfold Reads;simp_all
   ·rw[R];rcases kind with k | k | k | ⟨k1,k2,k3,K,k4,k5⟩
    ·exact .inl k
    ·grind
    ·grind
    ·rcases G with⟨e,_⟩ | ⟨_,w,e2,W⟩
     ·omega
     ·refine .inr (.inr (.inr ⟨k1,k2,k3,d.es.length,d.h,M,K,d.last,by rw[e2];simp,J _ _ a.cur,by rw[w,<-a.rB];simp,?_,by grind,k5⟩));rw[a.last];cases hk:d.es.length with
      | zero=>rfl
      | succ k=>
       grind [fO]
 ·rcases G with⟨_,_,w,e2,_⟩ | ⟨_,w,e2,_⟩
  ·rw[w,e2];exact a.rB
  ·rw[w,e2];simp[a.rB]
 ·rcases G with⟨_,Y,w,e2,_⟩ | ⟨_,w,e2,_⟩
  ·rw[w,e2,Y];exact a.cur
  ·rw[w,e2];simp[<-a.rB]
 ·exact J _ _ a.h0
 ·rcases G with⟨_,_,_,e2,W⟩ | ⟨_,_,e2,W⟩
  ·rw[e2,W];exact a.last
  ·rw[e2,W];simp[fO]
 ·rcases G with⟨_,_,_,e2,_⟩ | ⟨Y,_,e2,_⟩
  ·rw[e2] at n;obtain⟨h1,q,h2,h3⟩:=a.esr k e n;grind
  ·rw[e2] at n;rcases fZ n with n | ⟨_,rfl⟩
   ·obtain⟨h1,q,h2,h3⟩:=a.esr k e n;grind
   ·grind
 ·rcases fZ c with c | ⟨rfl,rfl⟩
  ·obtain⟨k,hk⟩:=a.ese e q c hc;grind
  ·rcases G with⟨Y,_⟩ | ⟨_,_,e2,_⟩
   ·omega
   ·exact⟨d.es.length,by grind⟩
 ·rcases G with⟨_,_,_,e2,_⟩ | ⟨_,_,e2,_⟩
  ·rw[e2] at n X;exact a.inc k l e f Q n X
  ·rw[e2] at n X;rcases fZ X with hf2 | ⟨hl,rfl⟩
   ·rcases fZ n with F | ⟨hk,rfl⟩
    ·exact a.inc k l e f Q F hf2
    ·grind
   ·rcases fZ n with F | ⟨hk,rfl⟩
    ·exact(a.esr k e F).1
    ·omega
 ·rcases fZ c with c | ⟨rfl,rfl⟩
  ·obtain⟨h1,h2⟩:=a.oX.2 j q c;grind
  ·have:=a.oX.1;grind
 ·rcases fZ hp with hp2 | ⟨hk,rfl⟩
  ·rcases fZ c with I | ⟨O,rfl⟩
   ·exact a.apart j k q p hjk I hp2
   ·grind
  ·rcases fZ c with I | ⟨O,rfl⟩
   ·have:=(a.oX.2 j q I).2;omega
   ·omega
 ·by_cases hji:j<i
  ·exact a.dst j B V hji b z
  ·grind
def GI {d G:Ds D} (q:oW P D cd mu ex L N ms U s i d) (p:wQ P L ms) (t:L[i]?=some o) (h:(Bs P D cd mu ex L N ms i o d).H G):oW P D cd mu ex L N ms U s (i+1) G:=by
 obtain⟨w,a,h1⟩:=af.1 h;obtain⟨b,hw,h0⟩:=af.1 h1;rcases im.1 h0 with⟨rfl,B⟩ | ⟨rfl,B⟩
 ·rcases im.1 B with⟨I,f⟩ | ⟨I,f⟩
  ·obtain⟨v,u,c,n⟩:=bh.1 f;obtain⟨e,g,j⟩:=af.1 n;obtain⟨k,C⟩:=bm.1 j;obtain⟨J,M⟩:=l4 k;cases ai.1 C;rw[fE];exact q.step (r:=⟨o,guards L i,1,v,w,d.nx,u.nx,u.h⟩) p t a g rfl rfl rfl (b9.1 J) (.inl ⟨by simp,rfl,rfl,rfl,rfl⟩) (.inr (.inl ⟨rfl,hw,aF.1 I,c,b9.1 M⟩))
  ·rcases im.1 f with⟨l,c⟩ | ⟨l,c⟩
   ·obtain⟨v,n,g⟩:=af.1 c;obtain⟨e,j,k⟩:=af.1 g;cases ai.1 k;rw[fE];exact q.step (r:=⟨o,guards L i,2,v,w,d.nx,d.nx,.nil⟩) p t a j rfl rfl rfl (Zah _) (.inl ⟨by simp,rfl,rfl,rfl,rfl⟩) (.inr (.inr (.inl ⟨rfl,hw,aF.1 l,rfl⟩)))
   ·obtain⟨F,n⟩:=bm.1 c;obtain⟨K,g,j⟩:=af.1 n;obtain⟨v,u,k,C⟩:=bh.1 j;obtain⟨e,x,y⟩:=af.1 C;obtain⟨z,A⟩:=bm.1 y;cases ai.1 A;rw[fE,fE,fE];exact q.step (r:=⟨o,guards L i,3,v,w,d.nx,u.nx,.nil⟩) p t a x rfl rfl rfl (b9.1 z) (.inr ⟨rfl,rfl,rfl,rfl⟩) (.inr (.inr (.inr ⟨rfl,hw,aF.1 F,K,g,k⟩)))
 ·obtain⟨e,f,c⟩:=af.1 B;cases ai.1 c;rw[fE];exact q.step (r:=⟨o,guards L i,0,undef,w,d.nx,d.nx,.nil⟩) p t a f rfl rfl rfl (Zah _) (.inl ⟨by simp,rfl,rfl,rfl,rfl⟩) (.inl ⟨rfl,hw,rfl,rfl⟩)
theorem wR (g:wQ P L ms):∀{l pre:List Oper} {d a:Ds D},pre++l=L->oW P D cd mu ex L N ms U s pre.length d->(Bt P D cd mu ex L N ms l pre.length d).H a->oW P D cd mu ex L N ms U s L.length a
 | [],pre,d,a,hl,i,h=>by
  cases ai.1 (show(C.ret d).H a from h);grind
 | o::l,pre,d,a,hl,i,h=>by
  obtain⟨k,h1,f⟩:=af.1 (show(av (Bs P D cd mu ex L N ms pre.length o d) (λd=>Bt P D cd mu ex L N ms l (pre.length+1) d)).H a from h);have j:L[pre.length]?=some o:=by grind
  have b:=GI i g j h1;have e:(pre++[o]).length=pre.length+1:=by simp
  rw[<-e] at b f;exact wR g (by grind) b f
theorem oW.start (s:St D.E) (φ:T (AV D.E)):oW P D cd mu ex L N ms φ s 0 ⟨φ,s.h,[s.h],s.nx,0,[],[]⟩:=
 ⟨rfl,⟨λj r o d h=>by simp at h,λt _=>rfl⟩,λj o r _ h=>by simp at h,rfl,rfl,rfl,rfl,λk e h=>by simp at h,λe r h=>by simp at h,λk l e f _ h=>by simp at h,⟨Zah _,λj r h=>by simp at h⟩,λj k r q _ h=>by simp at h,λj o d h=>ω⟩
end
section
variable {D:Data}
variable {Z:Rc D} {Y:List (Rc D)}
noncomputable def uN (yS:Nat->Bool):List (Rc D)->Nat->Nat->Option (AO D.E)
 | [],_,_=>none
 | r::rs,j,b=>if piece D r=true/\yS j=true/\r.lo=b then r.pc.get b else uN yS rs (j+1) b
theorem s_ (yS:Nat->Bool) (r:Rc D) (rs:List (Rc D)) (j b:Nat):uN yS (r::rs) j b=if piece D r/\yS j/\r.lo=b then r.pc.get b else uN yS rs (j+1) b:=rfl
def ia (rs:List (Rc D)):Prop:=∀(j k:Nat) (r q:Rc D),j<k->rs[j]?=some r->rs[k]?=some q->r.hi<=q.lo
def ia.tail (h:ia (Z::Y)):ia Y:=λj k Z q a c b=>h (j+1) (k+1) Z q ω (by assumption) (by assumption)
theorem kK (h:piece D Z):Z.cls=1/\Z.lo<Z.hi:=by
 obtain⟨h1,a⟩:=l4 h;grind [aF,b9]
def ia.head {q:Rc D} {k:Nat} (h:ia (Z::Y)) (a:piece D Z) (b:Y[k]?=some q):Z.lo≠q.lo:=by
 have:=h 0 (k+1) Z q ω rfl (by assumption);have:=(kK a).2;omega
def ia.uniq {j k:Nat} {q:Rc D} (h:ia Y) (c:Y[j]?=some Z) (b:Y[k]?=some q) (p:piece D Z) (p2:piece D q) (e:Z.lo=q.lo):j=k:=by
 rcases Zcs j k with a | rfl | a
 ·have:=h j k Z q a c b;have:=(kK p).2;omega
 ·rfl
 ·have:=h k j q Z a b c;have:=(kK p2).2;omega
theorem jD {yS:Nat->Bool}:∀{rs:List (Rc D)} {j0 b:Nat} {o:AO D.E},ia rs->(uN yS rs j0 b=some o↔∃(j:Nat) (r:Rc D),rs[j]?=some r/\piece D r/\yS (j0+j)/\r.lo=b/\r.pc.get b=some o)
 | [],j0,b,o,_=>by simp[uN]
 | r::rs,j0,b,o,hA=>by
  have g:=jD (yS:=yS) (j0:=j0+1) (b:=b) (o:=o) hA.tail;rw[s_];by_cases a:piece D r/\yS j0/\r.lo=b
  ·rw[Zac a];constructor
   ·intro h;exact⟨0,r,rfl,a.1,a.2.1,a.2.2,h⟩
   ·rintro⟨j,q,h1,e,f,c,d⟩;cases j with
    | zero=>cases(show some r=some q from h1);exact d
    | succ j=>exact absurd (a.2.2.trans c.symm) (hA.head a.1 (by assumption))
  ·rw[Zaa a,g];constructor
   ·rintro⟨j,q,h1,e,f,c,d⟩;exact⟨j+1,q,by assumption,e,by grind,c,d⟩
   ·grind
theorem kL {yS:Nat->Bool}:∀{rs:List (Rc D)} {a:Nat} {h d:T (AO D.E)},(kF D yS rs a h).H d->ia rs->∀b,d.get b=match uN yS rs a b with
  | some o=>some o
  | none=>h.get b
 | [],a,h,d,e,_,b=>by cases ai.1 (show(C.ret h).H d from e);rfl
 | r::rs,a,h,d,e,hA,b=>by
  rcases im.1 (show(bE (Bool.and (piece D r) (yS a)) (av (cE (r.pc.get r.lo)) λo=>av (cE (h.put r.lo (some o))) λh=>kF D yS rs (a+1) h) (kF D yS rs (a+1) h)).H d from e) with⟨g,h1⟩ | ⟨g,h1⟩
  ·obtain⟨k,hs⟩:=l4 g;obtain⟨o,i,f⟩:=af.1 h1;obtain⟨l,c,m⟩:=af.1 f;rw[bu] at i c;rw[kL m hA.tail b,T.dU _ _ _ _ c b];rw[s_];by_cases s:b=r.lo
   ·subst s;rw[Zac (show piece D r/\yS a/\r.lo=r.lo from⟨k,hs,rfl⟩),i,Zac rfl];cases t:uN yS rs (a+1) r.lo with
    | none=>rfl
    | some q=>
     obtain⟨j,x,n,_,_,p,_⟩:=(jD hA.tail).1 t;exact absurd p.symm (hA.head k n)
   ·grind
  ·have u:¬(piece D r/\yS a/\r.lo=b):=λ⟨f,l,_⟩=>by grind
   rw[kL h1 hA.tail b];grind [s_]
end
section
variable {D:Data} {M:Pm D}
variable {u:Unit} {x y:AV D.E}
theorem pN {b:Bool} (h:(wm b).H u):b:=(bm.1 h).1
theorem wS {v:Value} (h:(wo x y).H u) (d:VR M x v):VR M y v:=by
 cases x<;>simp only[wo] at h<;>(try exact h.elim)
 case bool a=>
  obtain⟨b,p,h1,e⟩:=bh.1 h;obtain⟨rfl,_⟩:=cw.1 e;cases y<;>simp only[yR] at h1<;>(try exact h1.elim)
  ·grind [ai]
  ·cases ai.1 h1;cases d;exact .lit _
 case lit a=>
  cases y<;>simp only at h<;>(try exact h.elim)
  ·obtain⟨rfl,_⟩:=cw.1 h;cases d;exact .bool _
  ·have h1:=pN h
   rename_i b
   cases a<;>cases b<;>first | exact d | cases h1
 case int k a=>
  obtain⟨l,b,h1,e⟩:=bh.1 h;obtain⟨f,g⟩:=bm.1 e;obtain⟨rfl,_⟩:=cw.1 g;obtain rfl:=fT.1 f;cases y<;>simp only[cT] at h1<;>(try exact h1.elim)
  ·grind [ai]
  ·cases ai.1 h1;cases d;exact .num (by assumption)
 case num k a=>
  cases y<;>simp only at h<;>(try exact h.elim)
  ·obtain⟨f,g⟩:=bm.1 h;obtain⟨rfl,_⟩:=cw.1 g;obtain rfl:=fT.1 f;cases d;exact .int (by assumption)
  ·grind [bm,fT,pN,qL]
 case str a=>
  obtain⟨b,h1,e⟩:=af.1 h;obtain⟨rfl,_⟩:=cw.1 e;cases y<;>simp only[hZ] at h1<;>(try exact h1.elim);grind [ai]
 case fD=>cases y<;>simp only at h<;>first | exact h.elim | exact d
 case ptr b o=>
  cases y<;>simp only at h<;>(try exact h.elim);grind [pN,aF]
 case kD b o=>
  cases y<;>simp only at h<;>(try exact h.elim);grind [pN,aF]
 case mj b k i j=>
  cases y<;>simp only at h<;>(try exact h.elim);grind [bm,cw,aF]
 case nr c x j=>
  cases y<;>simp only at h<;>(try exact h.elim);grind [bm,af,J8,cw,aF]
 case cF=>cases y<;>simp only at h<;>first | exact h.elim | exact d
 case own b k n=>
  cases y<;>simp only at h<;>(try exact h.elim);grind [bm,cw,aF]
 case pre b k n=>
  cases y<;>simp only at h<;>(try exact h.elim);grind [bm,cw,aF]
 case part b k o n=>
  cases y<;>simp only at h<;>(try exact h.elim);grind [bm,cw,aF]
 case grow c xs b=>
  cases y<;>simp only at h<;>(try exact h.elim);grind [bm,af,cC,cw,aF]
 case sub b o n=>
  cases y<;>simp only at h<;>(try exact h.elim);grind [pN,aF]
 case list c xs=>
  cases y<;>simp only at h<;>(try exact h.elim);grind [af,cC,cw]
 case qm=>cases y<;>simp only at h<;>first | exact h.elim | exact d
 case map b=>
  cases y<;>simp only at h<;>(try exact h.elim);grind [aF,pN]
 case nilFunc=>cases y<;>simp only at h<;>first | exact h.elim | exact d
 case nilIface=>cases y<;>simp only at h<;>first | exact h.elim | exact d
theorem oY:∀{xs a:List (AV D.E)} {u:Unit} {b:List Value},(zw xs a).H u->LR M xs b->LR M a b
 | [],[],_,_,_,h=>h
 | [],_::_,_,_,h,_=>(h:False).elim
 | _::_,[],_,_,h,_=>(h:False).elim
 | x::xs,y::a,u,b,h,hl=>by
  obtain⟨_,h1,c⟩:=af.1 (show(av (wo x y) λ_=>zw xs a).H u from h);obtain⟨f,r,rfl,e,d⟩:=hl.bX;exact .cons (wS h1 e) (oY c d)
theorem Kd {f g:Fn} (h:Xd f g):f=g:=by
 cases f<;>simp only[Xd] at h<;>(try cases h);grind [aF]
def PN {v:Value} (h:(O9 x y).H u) (b:VR M x v):VR M y v:=by
 cases x<;>simp only[O9] at h<;>(try exact wS h b)
 case agg xs=>
  cases y<;>simp only at h<;>(try exact h.elim);cases b with
  | agg hl a=>exact(VR.Df (oY h ⟨hl,a⟩):)
 case tuple xs=>
  cases y<;>simp only at h<;>(try exact h.elim);cases b with
  | tuple hl a=>exact(VR.Dg (oY h ⟨hl,a⟩):)
 case func f xs k=>
  cases y<;>simp only at h<;>(try exact h.elim);obtain⟨h0,h1⟩:=bm.1 h;obtain⟨_,i,j⟩:=af.1 h1;obtain rfl:=Kd h0;cases b with
  | func _ hl a d c=>
   have e:=oY i ⟨hl,a⟩;have g:=oY j ⟨d,c⟩;exact .func _ e.1 e.2 g.1 g.2
end
section
variable {P:Program} {D:Data} {cd:TypeId->Option Nat} {ex:yM D.E} {φ:T (AV D.E)}
variable {Z:List (Rc D)} {v:AV D.E} {Y:List Nat}
def PO:yX P D Xc:=λ_f a c d b h=>h.elim
theorem Mm {mu g:Bool} {o:Oper} {s:St D.E} {z:St D.E} (f:iB P o=2) (p:(JW P D cd mu g o.op Xc s φ).H (v,z)):z=s:=by
 have l:∃v,(ei P D cd mu o.op Xc s φ).H (v,z):=by
  unfold JW at p;cases g with
  | false=>exact⟨v,p⟩
  | true=>
   obtain⟨Q,O,h1,A⟩:=bh.1 (show(aI (ei P D cd mu o.op Xc s φ) λv s=>av (settle D v) λv=>.ret (v,s)).H (v,z) from p);grind [af,ai]
 clear p;obtain⟨v,l⟩:=l;unfold iB at f;cases N:o.op<;>rw[N] at f l<;>simp only at f<;>(try cases f)
 case load t a=>
  obtain⟨_,_,h1⟩:=af.1 l;exact(dy h1).2
 case lookup t x i ok=>exact(l:False).elim
 case convert src dst x=>
  obtain⟨u,_,h1⟩:=af.1 l;obtain⟨F,w,A⟩:=af.1 h1;obtain⟨C,_,d⟩:=af.1 A;rw[gR] at w;have y:Qdw F=false:=by
   rw[w] at f;cases F<;>first | rfl | cases f
  cases u<;>simp only at d<;>(try exact d.elim)
  case int=>obtain⟨_,_,h⟩:=af.1 d;cases ai.1 h;rfl
  case num=>obtain⟨_,_,h⟩:=af.1 d;cases ai.1 h;rfl
  case str=>rw[y] at d;exact(d:False).elim
  case own b k n=>
   rcases im.1 d with⟨_,d⟩ | ⟨_,d⟩
   ·obtain⟨_,_,h⟩:=af.1 d;obtain⟨_,_,I⟩:=af.1 h;obtain⟨_,J⟩:=bm.1 I;obtain⟨_,K⟩:=bm.1 J;obtain⟨_,_,L⟩:=af.1 K;obtain⟨_,M⟩:=bm.1 L;obtain⟨_,_,B⟩:=af.1 M;rcases im.1 B with⟨_,q⟩ | ⟨_,q⟩
    ·exact q.elim
    grind [ai,cN]
   ·obtain⟨e,_,h⟩:=af.1 d;cases C<;>simp only at h<;>(try exact h.elim);grind [af,bm,ai]
  all_goals
   obtain⟨e,_,h⟩:=af.1 d;cases C<;>simp only at h<;>(try exact h.elim);grind [af,bm,ai]
 case call c=>
  cases j:c.callee with
  | value x=>rw[j] at f;cases f
  | invoke r m=>rw[j] at f;cases f
  | builtin b=>
   rw[j] at f;simp only at f;obtain⟨G,_,h1⟩:=af.1 (show(av (OT P D φ c.args.toList) λG=>kr P D cd mu b s c.argTypes.toList G).H (v,z) from(by simp only[ei] at l;rw[j] at l;exact l));cases b<;>simp only[Qg1] at f<;>(try cases f);simp only[kr] at h1;obtain⟨_,_,A⟩:=af.1 h1;obtain⟨_,_,d⟩:=af.1 A;exact(dy d).2
theorem PQ {g:Bool} {o:Oper} {yS:Nat->Bool} {h:T (AO D.E)} (c:iB P o=2) (a:(loadAt P D cd g φ o yS Z h).H v):
  ∃k,(kF D yS Z 0 h).H k/\(JW P D cd false g o.op Xc ⟨k,0⟩ φ).H (v,⟨k,0⟩):=by
 obtain⟨k,h1,b⟩:=af.1 a;grind [bh,ai,Mm]
theorem rY {i:Nat} {r:Rc D}:∀{hs:List (T (AO D.E))} {last:Nat} {es:List Nat} {u:Unit},(ka P D cd Y Z i r hs last es).H u->∀(k:Nat) (h:T (AO D.E)),hs[k]?=some h->k<=es.length->
  oM Y i (match k with | 0=>last | k+1=>es.getD k 0+1) (es.drop k)->∃u,(Bu P D cd Y Z i (match k with | 0=>last | k+1=>es.getD k 0+1) r h).H u
 | [],last,es,_,_,k,h,hk,_,_=>by simp at hk
 | h0::hs,last,es,u,hc,k,h,hk,hle,hm=>by
  obtain⟨_,h1,b⟩:=af.1 (show(av (bE (oM Y i last es) (Bu P D cd Y Z i last r h0) eY) λ_=>(List.rec (motive:=λ_=>C Unit) eY (λe es _=>ka P D cd Y Z i r hs (e+1) es) es:C Unit)).H u from hc);cases k with
  | zero=>
   grind [im]
  | succ k=>
   cases es with
   | nil=>simp at hle
   | cons e es=>
    have c:(ka P D cd Y Z i r hs (e+1) es).H u:=b;have a:hs[k]?=some h:=by assumption
    have:=rY c k h a (by grind);grind
theorem ui {hs:List (T (AO D.E))} {es:List Nat}:∀{l:List (Rc D)} {i:Nat} {u:Unit},(Gn P D cd Y Z hs es l i).H u->∀(j:Nat) (r:Rc D),l[j]?=some r->r.cls=2->∃u,(ka P D cd Y Z (i+j) r hs 0 es).H u
 | [],i,u,_,j,r,b,_=>by grind
 | a::l,i,u,h,j,r,b,hc=>by
  obtain⟨_,h1,c⟩:=af.1 (show(av (bE (Nat.beq a.cls 2) (ka P D cd Y Z i a hs 0 es) eY) λ_=>Gn P D cd Y Z hs es l (i+1)).H u from h);cases j with
  | zero=>
   cases(show some a=some r from b);rcases im.1 h1 with⟨_,d⟩ | ⟨d,_⟩
   ·grind
   ·simp_all
  | succ j=>
   have:=ui c j r (by assumption) hc;grind
end
end sx
end Go.Proofs.YtadfknojfbmjgaaGreat
