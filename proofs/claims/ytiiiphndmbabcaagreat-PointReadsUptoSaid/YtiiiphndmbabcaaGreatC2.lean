/- PointReads: a part of the proof. -/
import Derived.Test.YtiiiphndmbabcaaGreatC1
import Derived.Laws.StructEq
import Derived.Tactics
import Derived.Orders
set_option linter.all false
namespace Go.Proofs.YtiiiphndmbabcaaGreat
namespace sx
open Go Go.RowKit
section
variable {P:Program} {D:Data} {cd:TypeId->Option Nat} {M M':Pm D} {φ:T (AV D.E)} {a:Act} {N:Nat} {w w':World} {H:Hp D} {s s':St D.E}
variable {v z:Value} {x y X:AV D.E} {e:TypeId} {b c:Bool} {Z:BinOp} {Y W:Operand} {d:TypeDesc}
def Qnu (v:Value):Option Bool:=match v with
 | .pointer a=>some a.isNone
 | .map a=>some a.isNone
 | .slice a _ _=>some a.isNone
 | .nilIface=>some true
 | .iface _ _=>some false
 | .nilFunc=>some true
 | .func _ _ _=>some false
 | _=>none
def uu (v:Value):Nat:=match v with
 | .pointer _=>1 | .slice _ _ _=>2 | .map _=>3 | .nilFunc=>4 | .func _ _ _=>4 | .nilIface=>5 | .iface _ _=>5
 | _=>0
def Am (h:(BM D x).H b) (c:VR M x v):Qnu v=some b/\uu v=Ga D x:=by
 cases c<;>simp only[BM] at h<;>first | (exact h.elim) | (cases aq.1 h;exact⟨rfl,rfl⟩) | (obtain⟨h0,h1⟩:=cY.1 h;first | (cases aq.1 h1;exact⟨rfl,rfl⟩) | (simp[aw,ag] at h0))
def QbH (h:uu v=1):∃a,v=.pointer a:=by cases v<;>first | exact⟨_,rfl⟩ | cases h
def QbI (h:uu v=2):∃a l c,v=.slice a l c:=by cases v<;>first | exact⟨_,_,_,rfl⟩ | cases h
def QbJ (h:uu v=3):∃a,v=.map a:=by cases v<;>first | exact⟨_,rfl⟩ | cases h
def QbK (h:uu v=4):v=.nilFunc\/∃f a b,v=.func f a b:=by cases v<;>first | exact .inl rfl | exact .inr ⟨_,_,_,rfl⟩ | cases h
def QbL (h:uu v=5):v=.nilIface\/∃t u,v=.iface t u:=by cases v<;>first | exact .inl rfl | exact .inr ⟨_,_,rfl⟩ | cases h
def QgR:uu v≠6:=by cases v<;>simp[uu]
theorem MR (h:(Qby D d x y).H (b,c)) (i:P.underlying e=some d) (s:VR M x v) (u:VR M y z) (n:Nat) (w:World):(Op.equalIn (n+1) e v z).run P w=.ok b w:=by
 obtain⟨r,h1⟩:=bA.1 h;obtain⟨f,m⟩:=bA.1 h1;obtain⟨b1,l,o⟩:=ai.1 m;obtain⟨j,e2,p⟩:=ai.1 o;obtain⟨g1,k1⟩:=Am l s;obtain⟨g2,k2⟩:=Am e2 u;rw[aN,<-k1] at r;rw[aN,<-k2] at f;have A:b=(b1&&j)/\(b1||j):=by
  rcases gY.1 p with⟨B,q⟩ | ⟨_,q⟩
  ·grind [aq]
  ·exact q.elim
 obtain⟨rfl,a⟩:=A;clear h h1 m o p l e2 k1 k2 s u;cases d with
 | pointer t=>
  obtain⟨g,rfl⟩:=QbH r;obtain⟨a2,rfl⟩:=QbH f;cases g<;>cases a2<;>cases g1<;>cases g2<;>first | (cases a;done) | simp[Op.equalIn,Zza i]
 | slice t=>
  obtain⟨g,C,c1,rfl⟩:=QbI r;obtain⟨a2,F,c2,rfl⟩:=QbI f;cases g<;>cases a2<;>cases g1<;>cases g2<;>first | (cases a;done) | simp[Op.equalIn,Zza i]
 | map k t=>
  obtain⟨g,rfl⟩:=QbJ r;obtain⟨a2,rfl⟩:=QbJ f;cases g<;>cases a2<;>cases g1<;>cases g2<;>first | (cases a;done) | simp[Op.equalIn,Zza i]
 | func G rs I=>
  rcases QbK r with rfl | ⟨_,_,_,rfl⟩<;>rcases QbK f with rfl | ⟨_,_,_,rfl⟩<;>cases g1<;>cases g2<;>first | (cases a;done) | simp[Op.equalIn,Zza i]
 | interface ms=>
  rcases QbL r with rfl | ⟨_,_,rfl⟩<;>rcases QbL f with rfl | ⟨_,_,rfl⟩<;>cases g1<;>cases g2<;>first | (cases a;done) | simp[Op.equalIn,Zza i]
 | _=>exact absurd r QgR
theorem MS (h:(JK D x y).H (b,c)) (g:VR M x v) (f:VR M y z):∃k a r,v=.int k a/\z=.int k r/\b=decide (a=r):=by
 cases x<;>simp only[JK] at h<;>(try exact h.elim)
 case int k a=>
  obtain⟨i,r,h1,m⟩:=bq.1 h;obtain⟨d,e⟩:=bA.1 m;obtain rfl:=fZ.1 d;cases aq.1 e;cases g;obtain⟨rfl,_⟩:=iJ h1 f;exact⟨_,_,_,rfl,rfl,rfl⟩
 case num k a=>
  cases g;cases y<;>simp only at h<;>(try exact h.elim)
  case int i r=>
   obtain⟨d,e⟩:=bA.1 h;obtain rfl:=fZ.1 d;cases aq.1 e;cases f;exact⟨_,_,_,rfl,rfl,rfl⟩
  case num i r=>
   obtain⟨d,e⟩:=bA.1 h;obtain rfl:=fZ.1 d;cases aq.1 e;cases f;grind [qV]
theorem Gz (h:(Gb D d x y).H (b,c)) (l:P.underlying e=some d) (f:VR M x v) (g:VR M y z) (n:Nat) (w:World):(Op.equalIn (n+1) e v z).run P w=.ok b w:=by
 cases d with
 | bool=>
  obtain⟨a,p,i,h1⟩:=bq.1 (show(aP (zh x) λa p=>aP (zh y) λr q=>.ret (oD a r,Bool.and p q)).H (b,c) from h);obtain⟨r,q,j,t⟩:=bq.1 h1;have t:=aq.1 t;simp only[Zbx] at t;obtain⟨rfl,_⟩:=t;obtain rfl:=Gs i f;obtain rfl:=Gs j g;cases a<;>cases r<;>simp[Op.equalIn,Zza l,oD]
 | int s=>
  obtain⟨k,a,r,rfl,rfl,rfl⟩:=MS (show(JK D x y).H (b,c) from h) f g;simp only[Op.equalIn,Zza l,Zzd,Zzb];simp
  try rfl
 | string=>
  obtain⟨a,i,h1⟩:=ai.1 (show(az (fY x) λa=>az (fY y) λr=>.ret (seq a r,false)).H (b,c) from h);obtain⟨r,j,t⟩:=ai.1 h1;have t:=aq.1 t;simp only[Zbx] at t;obtain⟨rfl,_⟩:=t;obtain⟨rfl,_⟩:=my i f;obtain⟨rfl,_⟩:=my j g;grind [run_equalIn_string,ByteArray.toList_eq,seq]
 | _=>exact MR h l f g n w
def An (a b:Bool×Bool):(Dq a b).1=(a.1&&b.1):=by
 obtain⟨x,p⟩:=a;obtain⟨y,q⟩:=b;cases x<;>cases p<;>cases y<;>cases q<;>rfl
theorem rX {ih:TypeId->AV D.E->AV D.E->C (Bool×Bool)} {n:Nat} {xs ys:List (AV D.E)} {X Y:Array Value} (hX:LR M xs X.toList) (hY:LR M ys Y.toList)
  (hih:∀(t:TypeId) (x y:AV D.E) (x' y':Value) (r:Bool×Bool),(ih t x y).H r->VR M x x'->VR M y y'->∀w,(Op.equalIn n t x' y').run P w=.ok r.1 w):∀{fs:List Field} {r:Bool×Bool},(eqFields P D ih xs ys fs).H r->∀w,
  (forIn fs ((none,()):Option Bool×Unit) λf __s=>(if f.name≠ "_" then do
    let __do_lift <-part f.type X f.offset
    let o4 <-part f.type Y f.offset
    let __do_lift <-Op.equalIn n f.type __do_lift o4
    if (!__do_lift)=true then Pure.pure (ForInStep.done (some false,())) else Pure.pure (ForInStep.yield (none,()))
   else Pure.pure (ForInStep.yield (none,())):Sem (ForInStep (Option Bool×Unit)))).run P w=.ok (if r.1 then(none,()) else(some false,())) w
 | [],r,h,w=>by cases aq.1 (show(C.ret (true,true)).H r from h);simp
 | f::fs,r,h,w=>by
  obtain⟨hn,h1⟩:decide (f.name= "_")=false/\(az (jW P D f.type xs f.offset) λx=>az (jW P D f.type ys f.offset) λy=>az (ih f.type x y) λr=>az (eqFields P D ih xs ys fs) λr'=>.ret (Dq r r')).H r:=by
   rcases gY.1 (show(bE (decide (f.name= "_")) .fail _).H r from h) with⟨_,h9⟩ | ⟨h8,h9⟩
   ·exact h9.elim
   ·exact⟨h8,h9⟩
  have hn':f.name≠ "_" :=by grind
  obtain⟨x,hx,h2⟩:=ai.1 h1;obtain⟨y,hy,h3⟩:=ai.1 h2;obtain⟨q,hq,h4⟩:=ai.1 h3;obtain⟨q2,hq2,h5⟩:=ai.1 h4;cases aq.1 h5;obtain⟨x',rx,vx⟩:=kq hx hX;obtain⟨y',ry,vy⟩:=kq hy hY;have he:=hih _ _ _ _ _ _ hq vx vy w;have ihf:=rX hX hY hih hq2 w;rw[ZdJ,An];cases hq1:q.1 with
  | true=>
   rw[hq1] at he;simp only[Zac hn',Zzd,rx,ry,he,Zzb,ZcF,ZaE,Za0,Zzc,ZbI];exact ihf
  | false=>
   rw[hq1] at he;simp only[Zac hn',Zzd,rx,ry,he,Zzb,Bool.not_false,Zbv,Zzc,ZaE,Za0,Zcw]
theorem uv {d:TypeId->AV D.E->AV D.E->C (Bool×Bool)} {n k:Nat} {xs f:List (AV D.E)} {X Y:Array Value} (p:LR M xs X.toList) (s:LR M f Y.toList)
  (a:∀(t:TypeId) (x y:AV D.E) (l o:Value) (r:Bool×Bool),(d t x y).H r->VR M x l->VR M y o->∀w,(Op.equalIn n t l o).run P w=.ok r.1 w):∀{m i:Nat} {r:Bool×Bool},(vL P D d e k xs f m i).H r->∀w,
  (forIn (List.range' i m) ((none,()):Option Bool×Unit) λi v=>(do
    let __do_lift <-part e X (i*k)
    let o4 <-part e Y (i*k)
    let __do_lift <-Op.equalIn n e __do_lift o4
    if (!__do_lift)=true then Pure.pure (ForInStep.done (some false,())) else Pure.pure (ForInStep.yield (none,())):Sem (ForInStep (Option Bool×Unit)))).run P w=.ok (if r.1 then(none,()) else(some false,())) w
 | 0,i,r,h,w=>by cases aq.1 (show(C.ret (true,true)).H r from h);simp
 | m+1,i,r,h,w=>by
  obtain⟨x,I,z⟩:=ai.1 (show(az (jW P D e xs (i*k)) λx=>az (jW P D e f (i*k)) λy=>az (d e x y) λr=>az (vL P D d e k xs f m (i+1)) λK=>.ret (Dq r K)).H r from h);obtain⟨y,J,A⟩:=ai.1 z;obtain⟨q,G,B⟩:=ai.1 A;obtain⟨O,g,F⟩:=ai.1 B;cases aq.1 F;obtain⟨l,rx,L⟩:=kq I p;obtain⟨o,u,N⟩:=kq J s;have c:=a _ _ _ _ _ _ G L N w;have j:=uv p s a g w;rw[List.range'_succ,ZdJ,An];cases b:q.1 with
  | true=>
   rw[b] at c;simp only[Zzd,rx,u,c,Zzb,ZcF,ZaE,Za0,Zzc,ZbI];exact j
  | false=>
   rw[b] at c;simp only[Zzd,rx,u,c,Zzb,Bool.not_false,Zbv,Zzc,ZaE,Za0,Zcw]
theorem Kd:∀(m:Nat) (n:Nat) (t:TypeId) (x y:AV D.E) (f g:Value) (r:Bool×Bool),(O9 P D m t x y).H r->VR M x f->VR M y g->∀w,(Op.equalIn (n+m) t f g).run P w=.ok r.1 w
 | 0,n,t,x,y,f,g,r,h,_,_,w=>(h:False).elim
 | m+1,n,t,x,y,f,g,r,h,l,o,w=>by
  obtain⟨d,p,h1⟩:=ai.1 (show(az (uV P t) λd=>eqD P D (O9 P D m) t d x y).H r from h);rw[gZ] at p;have j:=λt x y f g r h l o w=>Kd m n t x y f g r h l o w
  have base:∀q,q=d->(Gb D q x y).H r->(Op.equalIn (n+(m+1)) t f g).run P w=.ok r.1 w:=λq e G=>Gz (c:=r.2) G (e▸p) l o (n+m) w
  cases d with
  | struct C=>
   obtain⟨xs,a,s⟩:=ai.1 (show(az (asAgg x) λxs=>az (asAgg y) λi=>bE (P.stoodInHeld t) .fail (eqFields P D (O9 P D m) xs i C.toList)).H r from h1);obtain⟨i,b,u⟩:=ai.1 s;obtain⟨B,v⟩:P.stoodInHeld t=false/\(eqFields P D (O9 P D m) xs i C.toList).H r:=by
    rcases gY.1 u with⟨_,F⟩ | ⟨I,F⟩
    ·exact F.elim
    ·grind
   obtain⟨X,rfl,z⟩:=mz a l;obtain⟨Y,rfl,A⟩:=mz b o;have hl:=rX z A j v w;rw[Nat.add_succ];unfold Op.equalIn;simp only[Zzd,Zza p,Zzb,program,Sem.run,B,ZaE,Za0];rw[<-Array.forIn_toList];rw[hl];cases r.1<;>simp
  | array len e=>
   obtain⟨xs,a,s⟩:=ai.1 (show(az (asAgg x) λxs=>az (asAgg y) λi=>az (sz P e) λk=>vL P D (O9 P D m) e k xs i len 0).H r from h1);obtain⟨i,b,u⟩:=ai.1 s;obtain⟨k,hk,v⟩:=ai.1 u;rw[tj] at hk;obtain⟨X,rfl,z⟩:=mz a l;obtain⟨Y,rfl,A⟩:=mz b o;have hl:=uv z A j v w;rw[Nat.add_succ];unfold Op.equalIn;simp only[Zzd,Zza p,Zzb,cO hk];rw[Std.Legacy.Range.forIn_eq_forIn_range'];simp only[Std.Legacy.Range.size];rw[show(len-0+1-1) / 1=len by simp,hl];cases r.1<;>simp
  | _=>exact base _ rfl h1
def X8 (x y:Value):Bool:=match x with
 | .agg _=>match y with
  | .agg _=>false
  | _=>true
 | .nilIface=>match y with
  | .nilIface=>false
  | _=>true
 | _=>true
def g_ (op:BinOp) (t:TypeId) (a b:Operand) (x y:Value) (h:X8 x y) (w:World):(eqGuard op t a b x y).run P w=.ok () w:=by
 cases op<;>first | rfl | (cases x<;>first | rfl | (cases y<;>first | rfl | cases h))
def Ao {r:Bool×Bool} (h:(Pv P D e x y).H r) (f:VR M x v) (l:VR M y z) (op:BinOp) (c d:Operand) (w:World):(Op.equal e v z).run P w=.ok r.1 w/\(eqGuard op e c d v z).run P w=.ok () w:=by
 have a:(O9 P D 4 e x y).H r->(Op.equal e v z).run P w=.ok r.1 w:=λh=>Kd 4 9996 e x y v z r h f l w
 by_cases h1:∃cs,x=.agg cs
 ·obtain⟨cs,rfl⟩:=h1;rcases gY.1 (show(bE (P.eqGuardType P.depth e) .fail (O9 P D 4 e (.agg cs) y)).H r from h) with⟨_,k⟩ | ⟨m,k⟩
  ·exact k.elim
  ·refine⟨a k,?_⟩;cases f;cases z<;>first | exact run_eqGuard_agg w op e c d _ _ m | exact g_ op e c d _ _ rfl w
 ·by_cases g:x=.nilIface
  ·subst g;by_cases i:y=.nilIface
   ·subst i;exact(h:False).elim
   ·have j:(O9 P D 4 e .nilIface y).H r:=by
     cases y<;>first | exact h | exact absurd rfl i
    refine⟨a j,g_ op e c d _ _ ?_ w⟩;cases f;cases l<;>first | rfl | exact absurd rfl i
  ·have j:(O9 P D 4 e x y).H r:=by
    cases x<;>first | exact h | exact absurd ⟨_,rfl⟩ h1 | exact absurd rfl g
   refine⟨a j,g_ op e c d _ _ ?_ w⟩;cases f<;>first | rfl | exact absurd ⟨_,rfl⟩ h1 | exact absurd rfl g
def GA (b c:Bool):VR M (mkT D b c) (.bool b):=by
 cases c
 ·exact .bool b
 ·exact .lit b
theorem Qc (h:(Qgu P D Z e x y).H X) (q:VR M x v) (n:VR M y z) (l m:Operand) (w:World):
  ∃d,(do eqGuard Z e l m v z;binOp Z e v z:Sem Value).run P w=.ok d w/\VR M X d:=by
 have eqs:∀(s:∀(j:Value),(binOp .eql e v j)=(do Pure.pure (.bool (<-Op.equal e v j)))/\(binOp .neq e v j)=(do Pure.pure (.bool (!(<-Op.equal e v j))))),(Pw P D Z e x y).H X->
   ∃d,(do eqGuard Z e l m v z;binOp Z e v z:Sem Value).run P w=.ok d w/\VR M X d:=by
  intro s h1;cases Z<;>simp only[Pw] at h1<;>(try exact h1.elim)
  ·obtain⟨r,c,p,f⟩:=bq.1 h1;cases aq.1 f;obtain⟨o,e2⟩:=Ao p q n .eql l m w;exact⟨.bool r,by simp_all,GA r c⟩
  ·obtain⟨r,c,p,f⟩:=bq.1 h1;cases aq.1 f;obtain⟨o,e2⟩:=Ao p q n .neq l m w;exact⟨.bool (!r),by simp_all,GA (!r) c⟩
 have ints:∀{k i:IntKind} {a b:Int},v=.int k a->z=.int i b->(∃d,(∀w,(binOp Z e (.int k a) (.int i b)).run P w=.ok d w)/\VR M X d)->∃d,(do eqGuard Z e l m v z;binOp Z e v z:Sem Value).run P w=.ok d w/\VR M X d:=by
  rintro k i a b rfl rfl ⟨d,h1,f⟩;exact⟨d,by simp only[Zzd,g_ Z e l m (.int k a) (.int i b) rfl w,Zzb,h1],f⟩
 cases q with
 | @int k a g=>
  obtain⟨i,b,h1,f⟩:=bq.1 (show(aP (cT y) λi b=>XY D Z k i a b).H X from h);obtain⟨rfl,_⟩:=iJ h1 n;exact ints rfl rfl (DE f g e)
 | num g=>
  cases y<;>first | exact(h:False).elim | skip
  case int i b=>
   cases n;exact ints rfl rfl (DE h g e)
  case num i b=>
   cases n;obtain⟨u,h1,f⟩:=ai.1 h;cases aq.1 f;obtain⟨o,e2⟩:=Gm (P:=P) (bD.1 h1) g e;exact ints rfl rfl ⟨_,o,QgM e2⟩
 | @str a hl=>
  obtain⟨b,h1,f⟩:=ai.1 (show(az (fY y) λb=>BL D Z a b).H X from h);obtain⟨rfl,_⟩:=my h1 n;obtain⟨d,o,e2⟩:=Gn (P:=P) (M:=M) f e;exact⟨d,by simp only[Zzd,g_ Z e l m (.string ⟨⟨a⟩⟩) (.string ⟨⟨b⟩⟩) rfl w,Zzb,o],e2⟩
 | _=>exact eqs (λj=>⟨rfl,rfl⟩) h
def X9 {op:UnOp} (h:(unA D op x).H y) (d:VR M x v):∃f,(∀w,(Op.unary op v).run P w=.ok f w)/\VR M y f:=by
 cases op<;>simp only[unA] at h<;>(try exact h.elim)
 case neg=>
  cases x<;>simp only at h<;>(try exact h.elim)
  case int k n=>
   cases aq.1 h;cases d;refine⟨.int k (k.wrap (0-n)),λw=>by rfl,?_⟩;rw[Int.zero_sub];exact .int (cI _ _)
  case num k n=>
   obtain⟨c,a,h1⟩:=ai.1 h;cases aq.1 h1;have a:=bD.1 a;rw[gn,jB] at a;subst a;cases d;refine⟨.int k (k.wrap (0-n)),λw=>by rfl,?_⟩;rw[Int.zero_sub];exact .num (cI _ _)
 case xor=>
  have e:∀(k:IntKind) (n:Int),(BitVec.ofInt k.bits (if k.signed then-1 else k.max) ^^^ BitVec.ofInt k.bits n).toNat=Nat.xor (uT k-1) (Dk k n):=λk n=>by
   rw[Zdu,<-kE,<-kE];congr 1;cases k<;>rfl
  cases x<;>simp only at h<;>(try exact h.elim)
  case int k n=>
   cases aq.1 h;cases d;exact⟨_,λw=>by rfl,by rw[e];exact .int (cI _ _)⟩
  case num k n=>
   obtain⟨c,a,h1⟩:=ai.1 h;cases aq.1 h1;have a:=pT (bD.1 a);subst a;cases d;exact⟨_,λw=>by rfl,by rw[e];exact .num (cI _ _)⟩
 case not=>
  obtain⟨b,c,h1,i⟩:=bq.1 h;cases aq.1 i;obtain rfl:=Gs h1 d;exact⟨.bool (!b),λw=>by rfl,GA (!b) c⟩
theorem B9 (h:isConst Y):∃v,Y=.const v:=by
 cases Y<;>first | exact⟨_,rfl⟩ | cases(show false=true from h)
def Ap (h:QdH D x):x=.nilIface:=by
 cases x<;>first | rfl | cases(show false=true from h)
def Qd (c:(∃v,Y=.const v)\/(∃v,W=.const v)) (w:World):(eqGuard Z e Y W .nilIface .nilIface).run P w=.ok () w:=by
 rcases c with⟨v,rfl⟩ | ⟨v,rfl⟩
 ·cases Z<;>rfl
 ·cases Y<;>cases Z<;>rfl
theorem Qe (h:(Qgw P D Z e Y W x y).H X) (l:VR M x v) (m:VR M y z) (w:World):
  ∃n,(do eqGuard Z e Y W v z;binOp Z e v z:Sem Value).run P w=.ok n w/\VR M X n:=by
 rcases gY.1 h with⟨h1,c⟩ | ⟨_,c⟩
 ·obtain⟨A,o⟩:=l8 h1;obtain⟨p,q⟩:=l8 o;obtain rfl:=Ap p;obtain rfl:=Ap q;have k:(∃X,Y=.const X)\/(∃X,W=.const X):=by
   grind [B9]
  obtain⟨d,i,r⟩:=ai.1 c;obtain⟨s,f⟩:=bA.1 r;have i:P.underlying e=some d:=bD.1 i;cases l;cases m;have t:(Op.equal e .nilIface .nilIface).run P w=.ok true w:=by
   cases d<;>first | (cases(show false=true from s);done) | skip
   show(Op.equalIn (9999+1) e _ _).run P w=_
   unfold Op.equalIn;simp only[Zzd,Zza i,Zzb,Zzc]
  have g:(eqGuard Z e Y W .nilIface .nilIface).run P w=.ok () w:=Qd k w;cases Z<;>first | exact(show False from f).elim | skip
  ·cases aq.1 f;have u:binOp .eql e .nilIface .nilIface=(do Pure.pure (.bool (<-Op.equal e .nilIface .nilIface))):=rfl;exact⟨.bool true,by simp_all,.lit true⟩
  ·cases aq.1 f;have u:binOp .neq e .nilIface .nilIface=(do Pure.pure (.bool (!(<-Op.equal e .nilIface .nilIface)))):=rfl;exact⟨.bool false,by simp_all,.lit false⟩
 ·exact Qc c l m Y W w
end
section
variable {P:Program} {D:Data} {cd:TypeId->Option Nat} {M M':Pm D} {φ φ':T (AV D.E)} {a:Act} {N:Nat} {w w':World} {H:Hp D} {s s':St D.E}
variable {v i:AV D.E} {o:Oper} {c:Value} {Z:TypeId} {b:List (AV D.E)} {Y:Bool} {X:Array TypeId} {W:World} {A:Array Value} {V:Array Operand}
theorem MT {x v:AV D.E} {x':Value} (h:(PC D x).H v) (hx:VR M x x'):∀w,((match x' with
  | .pointer none | .nilIface | .nilFunc=>runtimePanic .nilDeref
  | .func (.method name) first captured=>
   match (first[0]?:Option Value) with
   | some .nilIface=>runtimePanic .nilDeref
   | some (.iface t w)=>do
    if (<-nilAhead ((<-program).types.size+Made.depth) t w name) !=some false then
     unsupported (.noEntry "op/nilCheck.the method's receiver behind this interface value is a nil pointer, or cannot be seen to be none, and the arguments act or may panic (ledger 612)")
    Pure.pure (.value (.func (.method name) first captured))
   | _=>Pure.pure (.value (.func (.method name) first captured))
  | x=>Pure.pure (.value x):Sem Next)).run P w=.ok (.value x') w/\v=x:=by
 intro w;unfold PC at h;cases hx<;>simp only at h<;>(try exact h.elim)
 case ptr=>cases aq.1 h;exact⟨rfl,rfl⟩
 case kA=>cases aq.1 h;exact⟨rfl,rfl⟩
 case mg=>cases aq.1 h;exact⟨rfl,rfl⟩
 case nA=>cases aq.1 h;exact⟨rfl,rfl⟩
 case func fn _ _ _ _ _ _ _ _=>
  cases fn<;>simp only at h<;>(try exact h.elim);cases aq.1 h;simp_all
def DP (h:(JO P D Z v).H i) (e:VR M v c):∃b,(∀w,(Instr.makeInterface Z c).run P w=.ok b w)/\VR M i b:=by
 obtain⟨d,a,h1⟩:=ai.1 h;rw[gZ] at a;cases d<;>simp only at h1<;>(try exact h1.elim)
 all_goals (cases aq.1 h1;exact⟨_,λw=>by simp only[Instr.makeInterface,Zzd,Zza a,Zzb,Zzc],.iface Z e⟩)
theorem qY {F:Value->Value->Sem Value} (p:∀(k:IntKind) (x y:Int) (w:World),(F (.int k x) (.int k y)).run P w=.ok (.int k (bif Y then cM x y else imax x y)) w):∀{d:List (AV D.E)} {c:List Value} {x v:AV D.E} {e:Value},(oQ D Y d x).H v->LR M d c->VR M x e->
  ∃g,(∀w,(c.foldlM F e).run P w=.ok g w)/\VR M v g
 | [],c,x,v,e,h,hl,i=>by
  cases aq.1 (show(C.ret x).H v from h);rw[hl.jA];simp_all
 | y::d,c,x,v,e,h,hl,i=>by
  obtain⟨k,a,l,h1⟩:=bq.1 (show(aP (cT x) λk a=>aP (cT y) λj b=>bB (BI k j) (oQ D Y d (.int k (bif Y then cM a b else imax a b)))).H v from h);obtain⟨j,b,e2,n⟩:=bq.1 h1;obtain⟨m,o⟩:=bA.1 n;obtain rfl:=fZ.1 m;obtain⟨z,r,rfl,s,q⟩:=hl.aM;obtain⟨rfl,i1⟩:=iJ l i;obtain⟨rfl,i2⟩:=iJ e2 s;have f:fK k (bif Y then cM a b else imax a b):=by
   grind [imax,cM]
  obtain⟨g,t,u⟩:=qY p o q (.int f);simp_all
theorem X' {ts:Array TypeId} {ty:TypeId} (h:(oQ D true (om 1 b) v).H i) (h0:gT b 0=some v) (hl:LR M b A.toList):∃a,(∀w,(Builtin.min_ ts ty A).run P w=.ok a w)/\VR M i a:=by
 cases b with
 | nil=>cases h0
 | cons y b=>
  cases(show some y=some v from h0);obtain⟨g,r,e,d,c⟩:=hl.aM;obtain⟨a,h1,f⟩:=qY (P:=P) (F:=Builtin.min2) (λk v y w=>by rfl) (show(oQ D true b v).H i from h) c d;grind [Builtin.min_]
theorem X_ {ts:Array TypeId} {ty:TypeId} (h:(oQ D false (om 1 b) v).H i) (h0:gT b 0=some v) (hl:LR M b A.toList):∃a,(∀w,(Builtin.max_ ts ty A).run P w=.ok a w)/\VR M i a:=by
 cases b with
 | nil=>cases h0
 | cons y b=>
  cases(show some y=some v from h0);obtain⟨g,r,e,d,c⟩:=hl.aM;obtain⟨a,h1,f⟩:=qY (P:=P) (F:=Builtin.max2) (λk v y w=>by rfl) (show(oQ D false b v).H i from h) c d;grind [Builtin.max_]
def Qf (h:(Px D v).H i) (o:VR M v c):∃l n cap,c=.slice l n cap/\VR M i (goInt n):=by
 have f:∀n:Nat,n<=9223372036854775807->VR M (.int .i64 (n:Int):AV D.E) (goInt n):=λn d=>.int (js d)
 cases o<;>simp only[Px] at h<;>(try exact h.elim)
 case dF=>cases aq.1 h;exact⟨_,_,_,rfl,.num (js (Zaj _))⟩
 case own a e x d g j ht=>cases aq.1 h;subst d;exact⟨_,_,_,rfl,f _ g⟩
 case kD a e x d hl=>cases aq.1 h;subst d;exact⟨_,_,_,rfl,f 0 (Zaj _)⟩
 case pre a e x d g hl j ht=>cases aq.1 h;subst d;exact⟨_,_,_,rfl,f _ ω⟩
 case oV a e x d hl=>cases aq.1 h;subst d;exact⟨_,_,_,rfl,f 0 (Zaj _)⟩
 case part a e x d m hl g j=>cases aq.1 h;subst d;exact⟨_,_,_,rfl,f _ ω⟩
 case jz a e d m=>cases aq.1 h;subst d;exact⟨_,_,_,rfl,f 0 (Zaj _)⟩
 case grow a x hl hz hs g j ht=>cases aq.1 h;exact⟨_,_,_,rfl,f _ g⟩
 case jZ a x=>cases aq.1 h;exact⟨_,_,_,rfl,f 0 (Zaj _)⟩
 case sub a x j g=>
  obtain⟨k,b,h1⟩:=ai.1 h;cases aq.1 h1;have b:=rO.1 (bD.1 b);subst b;exact⟨_,_,_,rfl,.num (js g)⟩
 case oW=>
  obtain⟨k,b,h1⟩:=ai.1 h;cases aq.1 h1;have b:=rO.1 (bD.1 b);subst b;exact⟨_,_,_,rfl,.num (js (Zaj _))⟩
 case list hs g j=>cases aq.1 h;exact⟨_,_,_,rfl,f _ g⟩
 case ed=>cases aq.1 h;exact⟨_,_,_,rfl,f 0 (Zaj _)⟩
def Qg {ty:TypeId} (h:(Qgy P D Z v).H i) (j:VR M v c) (k:Array TypeId) (o:Array Value) (h0:k[0]?=some Z) (h1:o[0]?=some c):
  ∃m,(Builtin.len_ k ty o).run P w=.ok m w/\VR M i m:=by
 obtain⟨d,g,b⟩:=ai.1 h;rw[gZ] at g;cases d<;>simp only at b<;>(try exact b.elim)
 case string=>
  obtain⟨l,hl,x⟩:=ai.1 b;cases aq.1 x;obtain⟨rfl,f⟩:=my hl j;have di:(⟨⟨l⟩⟩:ByteArray).size=l.length:=rfl;exact⟨goInt l.length,by simp[Builtin.len_,h0,h1,Zza g,di],.int (js f)⟩
 case slice e=>
  obtain⟨y,n,cap,rfl,u⟩:=Qf b j;exact⟨goInt n,by simp[Builtin.len_,h0,h1,Zza g],u⟩
 case array n e=>
  obtain⟨p,a,x⟩:=ai.1 b;obtain⟨r,q⟩:=bA.1 x;cases aq.1 q;have a:=rO.1 (bD.1 a);subst a;have s:n<=1099511627776:=cw.1 r;exact⟨_,by simp[Builtin.len_,h0,h1,Zza g];rfl,.num (js ω)⟩
def QdV (e:Ex):Exit:=match e with
 | .normal=>.normal
 | .exit id=>.exit id
 | .ret=>.ret
def GB (P:Program) (D:Data) (f:FuncId) (args:List (AV D.E)) (s:St D.E) (v:AV D.E) (a:St D.E):Prop:=s.nx<=a.nx/\(∃fn c,P.funcs[f]?=some fn/\fn.body=some c)/\
 ∀(M:Pm D) (A:Array Value) (w:World),LR M args A.toList->ee M s.h.get w->bV M s.nx a.nx->
  ∀R:Ending->World->Prop,(∀b d e,VR b v d->cU s.h.get M w a.h.get b e s.nx a.nx->R (.returned d) e)->Calls P f A w R
def rY (P:Program) (D:Data) (b:uj D.E):Prop:=∀(f:FuncId) (args:List (AV D.E)) (s:St D.E) (v:AV D.E) (a:St D.E),(b f args s).H (v,a)->GB P D f args s v a
def eE (P:Program) (o:Oper) (a:Act) (s:St D.E) (M:Pm D) (w:World) (v:AV D.E) (e:St D.E):Prop:=
 (∃d b c,((execOp a.eval o).run P w=.ok (.value b) c\/((execOp a.eval o).run P w=.ok .skip c/\b=Go.undef))/\VR d v b/\cU s.h.get M w e.h.get d c s.nx e.nx)\/
 (∃f A,(execOp a.eval o).run P w=.ok (.enter f A) w/\∀R:Ending->World->Prop,(∀d b c,VR d v b->cU s.h.get M w e.h.get d c s.nx e.nx->R (.returned b) c)->Calls P f A w R)
def eE.wp {a2:Act} (h:eE P o a s M w v s') (j:execOp a2.eval o=execOp a.eval o) (K:Act->World->Prop) (Q:Exit->Act->World->Prop)
  (g:∀b d c,VR b v d->cU s.h.get M w s'.h.get b c s.nx s'.nx->K (a2.put o.dst d) c):o.wp P a2 w K Q:=by
 unfold Oper.wp;rw[j];rcases h with⟨b,d,c,h1 | ⟨h1,rfl⟩,e,hs⟩ | ⟨f,A,h1,i⟩
 ·rw[h1];exact g b d c e hs
 ·rw[h1];exact g b Go.undef c e hs
 ·rw[h1];exact i _ λb d c e hs=>g b d c e hs
def eE.same (h:eE P o a s M w v s') (g:∀b c,VR b v c->VR b i c):eE P o a s M w i s':=by
 rcases h with⟨b,c,e,h1,d,hs⟩ | ⟨f,A,h1,d⟩
 ·exact .inl ⟨b,c,e,h1,g _ _ d,hs⟩
 ·exact .inr ⟨f,A,h1,λR k=>d R λb c e j hs=>k b c e (g _ _ j) hs⟩
def eE.value (h:(execOp a.eval o).run P w=.ok (.value c) W) (d:VR M' v c) (hs:cU s.h.get M w s'.h.get M' W s.nx s'.nx):eE P o a s M w v s':=
 .inl ⟨M',c,W,.inl h,d,hs⟩
def eE.res {r:Result Value} (d:vR s M w r v s') (h:∀b c,r=.ok b c->(execOp a.eval o).run P w=.ok (.value b) c):eE P o a s M w v s':=by
 obtain⟨g,b,c,e,f,hs⟩:=d;exact .value (h b c e) f hs
theorem eE.pure {v':Value} (b:ee M s.h.get w) (h:(execOp a.eval o).run P w=.ok (.value v') w) (c:VR M v v'):eE P o a s M w v s:=.value h c (.refl b _)
def eE.skip {r:Result Unit} (d:QgN s M w r s') (h:∀b,r=.ok () b->(execOp a.eval o).run P w=.ok .skip b):eE P o a s M w undef s':=by
 obtain⟨c,b,e,hs⟩:=d;exact .inl ⟨c,Go.undef,b,.inr ⟨h b e,rfl⟩,.undef,hs⟩
theorem dK {x:C (AV D.E)} (h:(iF D s x).H (v,s')):x.H v/\s'=s:=by
 obtain⟨u,hu,h1⟩:=ai.1 h;grind [aq]
theorem QdW {x:C (St D.E)} (h:(QgD D x).H (v,s')):x.H s'/\v=undef:=by
 obtain⟨u,hu,h1⟩:=ai.1 h;grind [aq]
theorem gp {α:Type} {x:Sem α} {f:α->Next} {v:α} {a:World} (h:x.run P W=.ok v a):(do Pure.pure (f (<-x)):Sem Next).run P W=.ok (f v) a:=by
 simp_all
theorem QgS {x:Sem Unit} {a:World} (h:x.run P W=.ok () a):(do x;Pure.pure .skip:Sem Next).run P W=.ok .skip a:=by
 simp_all
theorem pX (h:(Pt P D φ V.toList).H b) (c:FR M φ a N):LR M b (V.map a.eval).toList:=by
 grind [Array.toList_map,P8]
theorem Aq {i:Nat} (h:(Pt P D φ V.toList).H b) (e:FR M φ a N) (c:gT b i=some v):∃d,(V.map a.eval)[i]?=some d/\VR M v d:=by
 rw[fc] at c;obtain⟨d,h1,f⟩:=(pX h e).get c;grind
theorem Qh {i:Nat} (h:gT X.toList i=some Z):X[i]?=some Z:=by
 grind [fc]
theorem B' (G:aY D) {L:Builtin} {c:Call} (S:o.op=.call c) (R:c.callee=.builtin L) (g:(Pt P D φ c.args.toList).H b) (h:(ko P D cd Y L s c.argTypes.toList b).H (v,s')) (p:ee M s.h.get w) (l:FR M φ a N) (I:bV M s.nx s'.nx):
  eE P o a s M w v s':=by
 have J:∀(x:Sem Next),(do let d <-resolve a.eval c o.type;invoke d.target d.args:Sem Next)=x->(execOp a.eval o)=x:=λx J=>by
  unfold execOp;rw[S];exact J
 have q:(execOp a.eval o)=builtin L c.argTypes o.type (c.args.map λ| .const _=>true | _=>false) (c.args.map a.eval):=J _ (by
  unfold resolve;rw[R];rfl)
 cases L<;>simp only[ko] at h<;>(try exact h.elim)
 case append=>
  obtain⟨t,ht,h1⟩:=ai.1 h;obtain⟨u,hu,Q⟩:=ai.1 h1;obtain⟨d,A,F⟩:=ai.1 Q;obtain⟨x,f,k⟩:=ai.1 F;rw[bD] at ht hu A f;obtain⟨K,m,n⟩:=Aq g l A;obtain⟨C,i,j⟩:=Aq g l f;have T:=DH (ty:=o.type) G k n j p I;refine eE.res T λB O e=>?_
  rw[q];have e2:(Builtin.append_ c.argTypes o.type (c.args.map a.eval))=Builtin.append_ #[t,u] o.type #[K,C]:=by
   unfold Builtin.append_;rw[Qh ht,Qh hu,m,i];rfl
  exact gp (by grind)
 case copy=>
  obtain⟨t,ht,h1⟩:=ai.1 h;obtain⟨d,A,F⟩:=ai.1 h1;obtain⟨x,f,k⟩:=ai.1 F;rw[bD] at ht A f;obtain⟨K,m,n⟩:=Aq g l A;obtain⟨C,i,j⟩:=Aq g l f;exact eE.res (MP (ty:=o.type) G k n j p (Qh ht) m i) λB O e=>by rw[q];exact gp e
 case len=>
  obtain⟨t,ht,h1⟩:=ai.1 h;obtain⟨x,f,k⟩:=ai.1 h1;rw[bD] at ht f;obtain⟨C,i,j⟩:=Aq g l f;obtain⟨r,rfl⟩:=dK k;obtain⟨B,y,z⟩:=Qg (P:=P) (w:=w) (ty:=o.type) r j c.argTypes (c.args.map a.eval) (Qh ht) i;exact eE.pure p (by rw[q];exact gp y) z
 case min=>
  obtain⟨x,f,k⟩:=ai.1 h;rw[bD] at f;obtain⟨r,rfl⟩:=dK k;obtain⟨B,y,z⟩:=X' (P:=P) (ts:=c.argTypes) (ty:=o.type) r f (pX g l);exact eE.pure p (by rw[q];exact gp (y w)) z
 case max=>
  obtain⟨x,f,k⟩:=ai.1 h;rw[bD] at f;obtain⟨r,rfl⟩:=dK k;obtain⟨B,y,z⟩:=X_ (P:=P) (ts:=c.argTypes) (ty:=o.type) r f (pX g l);exact eE.pure p (by rw[q];exact gp (y w)) z
 case clear=>
  obtain⟨t,ht,h1⟩:=ai.1 h;obtain⟨x,f,k⟩:=ai.1 h1;rw[bD] at ht f;obtain⟨C,i,j⟩:=Aq g l f;exact eE.res (DL (ty:=o.type) G k j p (Qh ht) i) λB O e=>by rw[q];exact gp e
def rZ (P:Program):Prop:=∀(f:FuncId) (fn:Func),P.funcs[f]?=some fn->(fn.name== "runtime.NumGoroutine" &&fn.body.isSome)=false
theorem vU (h:(wG D v).H Y) (a:VR M v c):c=.bool Y:=by
 cases a<;>simp only[wG] at h<;>(try exact h.elim)
 all_goals grind [vO,aq]
theorem GC (hD:aY D) {mu:Bool} {ex:uj D.E} {o:Oper} {v:AV D.E} (Pd:rZ P) (hex:rY P D ex) (h:(PF P D cd mu o.op ex s φ).H (v,s')) (hS:ee M s.h.get w) (hf:FR M φ a N) (hfr:bV M s.nx s'.nx):eE P o a s M w v s':=by
 cases ho:o.op<;>rw[ho] at h<;>simp only[PF] at h<;>(try exact h.elim)
 case move x=>
  obtain⟨h1,rfl⟩:=dK h;exact eE.pure hS (by unfold execOp;rw[ho];rfl) (dN h1 hf)
 case assign x=>
  obtain⟨h1,rfl⟩:=dK h;exact eE.pure hS (by unfold execOp;rw[ho];rfl) (dN h1 hf)
 case pick c x y=>
  obtain⟨vc,hc,h1⟩:=ai.1 h;obtain⟨vx,hx,h2⟩:=ai.1 h1;obtain⟨vy,hy,h3⟩:=ai.1 h2;obtain⟨h4,rfl⟩:=dK h3;obtain⟨t,ht,h5⟩:=ai.1 h4;have et:=vU ht (dN hc hf);rcases gY.1 h5 with⟨rfl,h6⟩ | ⟨rfl,h6⟩
  ·cases aq.1 h6;exact eE.pure hS (by grind [execOp,Go.asBool,Sem.run_pure]) (dN hx hf)
  ·cases aq.1 h6;exact eE.pure hS (by grind [execOp,Go.asBool,Sem.run_pure]) (dN hy hf)
 case alloc e=>
  obtain⟨z,hz,h1⟩:=ai.1 h;obtain⟨it,z',hit,hzz,hzv⟩:=mr hz;refine eE.res (Al (P:=P) (C:=z'.cells) h1 hS hfr (fg (hzv M))) λv' w' e1=>?_
  unfold execOp;rw[ho];refine gp ?_;unfold Instr.alloc newVar;simp only[Zzd,rQ hit hzz,Zzb];exact e1
 case box e x=>
  obtain⟨u,hu,h1⟩:=ai.1 h;refine eE.res (Al (P:=P) (C:=(a.eval x).cells) h1 hS hfr (fg (dN hu hf))) λv' w' e1=>?_
  unfold execOp;rw[ho];exact gp e1
 case build t parts=>
  obtain⟨h1,rfl⟩:=dK h;obtain⟨v',h2,h3⟩:=DJ h1 hf;exact eE.pure hS (by unfold execOp;rw[ho];exact gp (h2 w)) h3
 case buildSlice t len parts=>
  exact eE.res (zr hD h hf hS hfr) λv' w' e1=>by unfold execOp;rw[ho];exact gp e1
 case load t x=>
  obtain⟨u,hu,h1⟩:=ai.1 h;obtain⟨h3,rfl⟩:=dK h1;obtain⟨v',ad,e1,h4,_,h5⟩:=Ae (P:=P) hD h3 (dN hu hf) hS;exact eE.pure hS (by unfold execOp;rw[ho];exact gp h4) h5
 case store t x y=>
  obtain⟨vx,hx,h1⟩:=ai.1 h;obtain⟨vy,hy,h2⟩:=ai.1 h1;obtain⟨h3,rfl⟩:=QdW h2;exact eE.skip (DF hD h3 (dN hx hf) (dN hy hf) hS) λw' e1=>by unfold execOp;rw[ho];exact QgS e1
 case nilCheck x=>
  obtain⟨u,hu,h1⟩:=ai.1 h;obtain⟨h2,rfl⟩:=dK h1;obtain⟨h3,rfl⟩:=MT (P:=P) h2 (dN hu hf) w;grind [eE.pure,execOp,dN]
 case binOp op t x y yt=>
  obtain⟨vx,hx,h1⟩:=ai.1 h;obtain⟨vy,hy,h2⟩:=ai.1 h1;obtain⟨h3,rfl⟩:=dK h2;obtain⟨v',h4,h5⟩:=Qe h3 (dN hx hf) (dN hy hf) w;exact eE.pure hS (by unfold execOp;rw[ho];exact gp h4) h5
 case unOp op t x=>
  obtain⟨vx,hx,h1⟩:=ai.1 h;obtain⟨h3,rfl⟩:=dK h1;obtain⟨v',h4,h5⟩:=X9 (P:=P) h3 (dN hx hf);exact eE.pure hS (by unfold execOp;rw[ho];exact gp (h4 w)) h5
 case convert src dst x=>
  obtain⟨vx,hx,h1⟩:=ai.1 h;exact eE.res (Gx hD h1 (dN hx hf) hS hfr) λv' w' e1=>by unfold execOp;rw[ho];exact gp e1
 case makeInterface t x=>
  obtain⟨vx,hx,h1⟩:=ai.1 h;obtain⟨h3,rfl⟩:=dK h1;obtain⟨v',h4,h5⟩:=DP h3 (dN hx hf);exact eE.pure hS (by unfold execOp;rw[ho];exact gp (h4 w)) h5
 case makeFunc fn first captured=>
  obtain⟨vf,h1,h2⟩:=ai.1 h;obtain⟨vc,h3,h4⟩:=ai.1 h2;cases aq.1 h4;have l1:=pX h1 hf;have l2:=pX h3 hf;exact eE.pure hS (by unfold execOp;rw[ho];exact gp rfl) (.func fn l1.1 l1.2 l2.1 l2.2)
 case makeSlice t l c=>
  obtain⟨vl,hl,h1⟩:=ai.1 h;obtain⟨vc,hc,h2⟩:=ai.1 h1;exact eE.res (B7 hD h2 (dN hl hf) (dN hc hf) hS hfr) λv' w' e1=>by unfold execOp;rw[ho];exact gp e1
 case slice t x lo hi mx=>
  obtain⟨vx,hx,h1⟩:=ai.1 h;obtain⟨vl,hl,h2⟩:=ai.1 h1;obtain⟨vh,hh,h3⟩:=ai.1 h2;obtain⟨vm,hm,h4⟩:=ai.1 h3;obtain⟨h5,rfl⟩:=dK h4;obtain⟨v',h6,h7⟩:=Gy hD h5 (dN hx hf) (.map hl hf) (.map hh hf) (.map hm hf);exact eE.pure hS (by unfold execOp;rw[ho];exact gp (h6 w)) h7
 case fieldAddr t x f=>
  obtain⟨vx,hx,h1⟩:=ai.1 h;obtain⟨h3,rfl⟩:=dK h1;obtain⟨v',h4,h5⟩:=uX h3 (dN hx hf);exact eE.pure hS (by unfold execOp;rw[ho];exact gp (h4 w)) h5
 case field t x f=>
  obtain⟨vx,hx,h1⟩:=ai.1 h;obtain⟨h3,rfl⟩:=dK h1;obtain⟨v',h4,h5⟩:=DN h3 (dN hx hf);exact eE.pure hS (by unfold execOp;rw[ho];exact gp (h4 w)) h5
 case indexAddr t x i=>
  obtain⟨vx,hx,h1⟩:=ai.1 h;obtain⟨vi,hi,h2⟩:=ai.1 h1;obtain⟨h3,rfl⟩:=dK h2;obtain⟨v',h4,h5⟩:=zt h3 (dN hx hf) (dN hi hf);exact eE.pure hS (by unfold execOp;rw[ho];exact gp (h4 w)) h5
 case index t x i=>
  obtain⟨vx,hx,h1⟩:=ai.1 h;obtain⟨vi,hi,h2⟩:=ai.1 h1;obtain⟨h3,rfl⟩:=dK h2;obtain⟨v',h4,h5⟩:=DO h3 (dN hx hf) (dN hi hf);exact eE.pure hS (by unfold execOp;rw[ho];exact gp (h4 w)) h5
 case extract x i=>
  obtain⟨vx,hx,h1⟩:=ai.1 h;obtain⟨h3,rfl⟩:=dK h1;obtain⟨v',h4,h5⟩:=zu (P:=P) h3 (dN hx hf);exact eE.pure hS (by unfold execOp;rw[ho];exact gp (h4 w)) h5
 case call c=>
  cases hc:c.callee with
  | builtin b=>
   rw[hc] at h;obtain⟨vs,hvs,h1⟩:=ai.1 (show(az (Pt P D φ c.args.toList) λvs=>ko P D cd mu b s c.argTypes.toList vs).H (v,s') from h);grind [B']
  | invoke r m=>rw[hc] at h;exact(h:False).elim
  | value x=>
   rw[hc] at h;obtain⟨f,args,h1,h2⟩:=bq.1 (show(aP (QbB P D φ x c) λf args=>ex f args s).H (v,s') from h);obtain⟨u,hu,h3⟩:=ai.1 h1;obtain⟨f',p,hfn,h4⟩:=bq.1 h3;obtain⟨QwY,has,h5⟩:=ai.1 h4;obtain⟨fs,cs⟩:=p;have h5:=aq.1 h5;simp only[Zbx] at h5;obtain⟨rfl,rfl⟩:=h5;rw[fC,fC] at h2;have hv:=dN hu hf;have hfun:∃(F C:Array Value),a.eval x=.func (.func f') F C/\LR M fs F.toList/\LR M cs C.toList:=by
    generalize a.eval x=xv at hv;cases hv<;>simp only[QgE] at hfn<;>(try exact hfn.elim)
    rename_i fn _ _ _ _ g1 g2 g3 g4
    cases fn<;>simp only at hfn<;>(try exact hfn.elim);have hfn:=aq.1 hfn;simp only[Zbx] at hfn;obtain⟨rfl,rfl,rfl⟩:=hfn;exact⟨_,_,rfl,⟨g1,g2⟩,⟨g3,g4⟩⟩
   obtain⟨F,C,e1,l1,l2⟩:=hfun
   have hl:LR M (fs++(QwY++cs)) (F++c.args.map a.eval++C).toList:=by
    rw[Array.toList_append,Array.toList_append,ZaD];exact l1.app ((pX has hf).app l2)
   obtain⟨_,⟨fn,body,g1,g2⟩,hcall⟩:=hex f' _ s v s' h2;have hcall:=hcall M _ w hl hS hfr;have hn:(fn.name== "runtime.NumGoroutine")=false:=by
    have:=Pd f' fn g1;grind
   have hrun:(execOp a.eval o).run P w=.ok (.enter f' (F++c.args.map a.eval++C)) w:=by
    unfold execOp;rw[ho];simp only[resolve,hc,e1,Deferred.ofValue,Zzd,Zzc,Zzb,invoke,callFunc,program,Sem.run,g1,hn,ZaE,Za0,g2,Option.isNone_some]
   exact .inr ⟨f',_,hrun,hcall⟩
end
section
variable {P:Program} {D:Data} {cd:TypeId->Option Nat} {M M':Pm D} {φ φ':T (AV D.E)} {a:Act} {N:Nat} {w:World} {s s':St D.E}
variable {v:AV D.E} {b:Bool} {c:Value} {d:Option Tmp} {Z:Array Oper} {Y:uj D.E}
theorem wY (a:Act) (d:Option Tmp) (v:Value) (t:Tmp) (h:∀x,d=some x->x<a.tmps.size):(a.put d v).tmps.getD t Go.undef=if d=some t then v else a.tmps.getD t Go.undef:=by
 cases d with
 | none=>rw[Zaa (by simp)];rfl
 | some x=>
  show(a.tmps.setIfInBounds x v).getD t Go.undef=_
  rw[ZaT,ZaT];grind
theorem As (h:(wK D N φ d v).H φ'):(∀x,d=some x->x<N)/\∀t,φ'.get t=if d=some t then some v else φ.get t:=by
 cases d with
 | none=>cases aq.1 (show(C.ret φ).H φ' from h);exact⟨λx b=>(nomatch b),λt=>by simp⟩
 | some x=>
  obtain⟨h1,a⟩:=bA.1 (show(bB (Nat.ble (x+1) N) (cR (φ.put x (some v)))).H φ' from h);rw[bD] at a;refine⟨λy c=>by grind [cw],λt=>?_⟩;rw[T.ea _ _ _ _ a t];grind
def size_put (a:Act) (d:Option Tmp) (v:Value):(a.put d v).tmps.size=a.tmps.size:=by cases d<;>simp[Act.put]
def wZ (a:Act) (d:Option Tmp) (v:Value):(a.put d v).defers=a.defers:=by cases d<;>rfl
theorem Ke (h:(wK D N φ d v).H φ') (b:FR M φ a N) (i:VR M v c):FR M φ' (a.put d c) N:=by
 obtain⟨h1,f⟩:=As h;refine⟨λt u hu=>?_,by rw[size_put,b.size],by rw[wZ,b.defers]⟩;rw[wY a d c t (λx g=>by rw[b.size];exact h1 x g)];rw[f] at hu;by_cases e:d=some t
 ·grind
 ·rw[Zaa e] at hu;rw[Zaa e];exact b.at_ t u hu
def vB (v:Value):Option Bool:=match v with
 | .bool b=>some b
 | _=>none
def Kf {wt:Bool} (h:(JU D b v).H wt) (d:VR M v c):(vB c==some b)=wt:=by
 cases d<;>simp only[JU] at h
 case bool a=>
  rcases vO.1 h with⟨rfl,h1⟩ | ⟨rfl,h1⟩<;>cases aq.1 h1<;>cases b<;>rfl
 case lit a=>
  have h:=aq.1 h;cases a<;>cases b<;>cases wt<;>first | rfl | cases h
 all_goals assumption
theorem pY {o:Oper} (h:(mj D Z.toList φ o).H b) (m:FR M φ a N):Region.wanted o (yielded Z a.tmps)=b:=by
 unfold mj at h;unfold Region.wanted;cases d:o.guard with
 | none=>rw[d] at h;exact aq.1 h
 | some p=>
  rw[d] at h;obtain⟨j,wt⟩:=p;show(yielded Z a.tmps j==some wt)=b
  obtain⟨v,n,e⟩:=ai.1 (show(az (cR (yA D Z.toList φ j)) λv=>JU D wt v).H b from h);obtain⟨q,h1,g⟩:=aE.1 (show oB (gT Z.toList j) (λo=>oB o.dst λt=>φ.get t)=some v from bD.1 n);obtain⟨t,i,k⟩:=aE.1 g;rw[fc,ZaL] at h1;have c:=m.at_ t v k;rw[ZaT] at c;unfold yielded;rw[h1,ZcE,i,ZcE];cases f:a.tmps[t]? with
  | none=>rw[f] at c;exact Kf e c
  | some u=>
   rw[f] at c;have l:=Kf e (show VR M v u from c);cases u<;>exact l
def Qi {e:AV D.E} (h:(settle D v).H e):∀a b,VR a v b->VR a e b:=by
 intro a b d;cases v<;>simp only[settle] at h<;>try (cases aq.1 h;exact d)
 rcases vO.1 h with⟨c,h1⟩ | ⟨c,h1⟩<;>subst c<;>cases aq.1 h1<;>cases d
 ·exact .lit true
 ·exact .lit false
def QdX (h:VR M v c):VR M (clo D v) c:=by
 have e:∀k n,Option.rec (motive:=λ_=>AV D.E) (.num k n) (λx=>wE x) (F9 k n)=AV.num k n:=λk n=>by
  cases q:F9 k n with
  | none=>rfl
  | some x=>rw[gn.1 q];rfl
 cases v<;>first | exact h | (cases h;rename_i b;cases b<;>exact .lit _) | (cases h;rename_i q;show VR M (Option.rec (motive:=λ_=>AV D.E) _ _ _) _;rw[e];exact .num q)
theorem B_ (e:aY D) {g:Bool} {o:Oper} (c:rZ P) (hex:rY P D Y) (h:(JV P D cd b g o.op Y s φ).H (v,s')) (f:ee M s.h.get w) (i:FR M φ a N) (mu:bV M s.nx s'.nx):eE P o a s M w v s':=by
 unfold JV at h;cases hk:Gh cd with
 | true=>
  rw[hk] at h;obtain⟨n,m,h1,d⟩:=bq.1 (show(aP (knw (PF P D cd b o.op Y s φ)) λv s=>.ret (clo D v,s)).H (v,s') from h);cases aq.1 d;exact(GC e c hex (QbF h1) f i mu).same λp q l=>QdX l
 | false=>
 rw[hk] at h;cases g with
 | false=>exact GC e c hex h f i mu
 | true=>
  obtain⟨n,m,h1,d⟩:=bq.1 (show(aP (PF P D cd b o.op Y s φ) λv s=>az (settle D v) λv=>.ret (v,s)).H (v,s') from h);obtain⟨r,j,k⟩:=ai.1 d;cases aq.1 k;exact(GC e c hex h1 f i mu).same (Qi j)
theorem pZ (F:aY D) (m:rZ P) (hex:rY P D Y):∀(l:List Oper) (i:Nat) (s:St D.E) (φ:T (AV D.E)) (e:St D.E) (c:T (AV D.E)),(qT P D cd b Y Z.toList N l i s φ).H (e,c)->s.nx<=e.nx/\
  ∀(M:Pm D) (a:Act) (w:World),ee M s.h.get w->FR M φ a N->bV M s.nx e.nx->∀Q:Exit->Act->World->Prop,
   (∀x y z,cU s.h.get M w e.h.get x z s.nx e.nx->FR x c y N->Q .normal y z)->wpList P Z Q l a w
 | [],i,s,φ,e,c,h=>by
  cases aq.1 (show(C.ret (s,φ)).H (e,c) from h);exact⟨Zah _,λM a w r k _ Q q=>q M a w (.refl r _) k⟩
 | o::l,i,s,φ,e,c,h=>by
  obtain⟨mu,hw,h0⟩:=ai.1 (show(az (mj D Z.toList φ o) λmu=>bE mu
   (aP (JV P D cd b (guards Z.toList i) o.op Y s φ) λv n=>az (wK D N φ o.dst v) λφ=>bB (Nat.ble s.nx n.nx) (qT P D cd b Y Z.toList N l (Nat.succ i) n φ))
   (az (wK D N φ o.dst undef) λφ=>qT P D cd b Y Z.toList N l (Nat.succ i) s φ)).H (e,c) from h)
  rcases gY.1 h0 with⟨rfl,h1⟩ | ⟨rfl,h1⟩
  ·obtain⟨v,n,U,V⟩:=bq.1 h1;obtain⟨p,A,B⟩:=ai.1 V;obtain⟨W,X⟩:=bA.1 B;have S:s.nx<=n.nx:=cw.1 W;obtain⟨j,d⟩:=pZ F m hex l _ n p e c X;refine⟨ω,λM a w r k f Q q=>?_⟩;have t:bV M s.nx n.nx:=λmu O R=>f mu O ω
   have K:=B_ (o:=o) F m hex U r k t;unfold wpList;rw[Zac (pY hw k)];refine .inl (K.wp rfl _ _ λL v' ops ex g=>?_);have G:=g.Le t;have I:bV L n.nx e.nx:=λmu O R=>by rw[g.ext mu ω];exact f mu ω R
   refine d L _ ops g.fJ (Ke A (k.mono G) ex) I Q λx y z u J=>q x y z (g.trans u) J
  ·obtain⟨p,A,B⟩:=ai.1 h1;obtain⟨j,d⟩:=pZ F m hex l _ s p e c B;refine⟨j,λM a w r k f Q q=>?_⟩;unfold wpList;rw[Zaa (by grind [pY])];exact d M _ w r (Ke A k .undef) f Q q
end
variable {Z:List Nat}
def QdY (m i:Nat):Nat.beq (Nat.mod (Nat.div m (Nat.pow 2 i)) 2) 1=m.testBit i:=by
 rw[Nat.testBit_eq_decide_div_mod_eq,ZaG,aN,ZbP];exact ZbW
theorem r4 {i j m:Nat} (h:Z[j]?=some m):jX Z i j=m.testBit i:=by
 unfold jX;rw[fc,h];exact QdY m i
theorem DQ {i j:Nat} (h:Z[j]?=none):jX Z i j=false:=by
 unfold jX;rw[fc,h]
theorem o5:∀{es:List Edge} {ms:List Nat} {m0 m:Nat},wH ms es m0=some m->
  (∀e∈es,Region.binds .any e->e.on<ms.length)/\∀i,m.testBit i↔(m0.testBit i\/∃e∈es,Region.binds .any e/\(e.on=i\/jX ms i e.on))
 | [],ms,m0,m,h=>by cases(show some m0=some m from h);simp
 | e::es,ms,m0,m,h=>by
  rcases B0.1 (show oE (Region.binds .any e) (oB (gT ms e.on) λk=>wH ms es (Nat.lor (Nat.lor m0 (Nat.pow 2 e.on)) k)) (wH ms es m0)=some m from h) with⟨d,h1⟩ | ⟨d,h1⟩
  ·obtain⟨k,hk,c⟩:=aE.1 h1;rw[fc] at hk;obtain⟨q1,b⟩:=o5 c;have j:e.on<ms.length:=(Zam.1 hk).1;refine⟨λl g f=>?_,λi=>?_⟩
   ·grind
   ·rw[b i];have a:(Nat.lor (Nat.lor m0 (Nat.pow 2 e.on)) k).testBit i=(m0.testBit i||decide (e.on=i)||jX ms i e.on):=by
     show((m0||| 2 ^ e.on)||| k).testBit i=_
     grind [r4]
    grind
  ·obtain⟨q1,b⟩:=o5 h1;grind
structure nI (L:List Oper) (ms:List Nat):Prop where
 len:ms.length=L.length
 QdZ:∀(j:Nat) (o:Oper) (e:Edge),L[j]?=some o->e∈o.after.toList->Region.binds .any e=true->e.on<j/\jX ms e.on j=true/\∀i,jX ms i e.on=true->jX ms i j=true
 back:∀i j,jX ms i j=true->∃(o:Oper) (e:Edge),L[j]?=some o/\e∈o.after.toList/\Region.binds .any e=true/\e.on<j/\(e.on=i\/jX ms i e.on=true)
variable {Z:List Nat} {L:List Oper}
theorem r5 {m i j:Nat} (h:j<Z.length):jX (Z++[m]) i j=jX Z i j:=by
 have h1:Z[j]?=some Z[j]:=Zaf h;rw[r4 h1,r4 (by rw[Zat h];exact h1)]
theorem w7:∀{os pre:List Oper} {ms g:List Nat},JS os ms=some g->nI pre ms->nI (pre++os) g
 | [],pre,ms,g,h,l=>by cases(show some ms=some g from h);rw[Zaw];exact l
 | o::os,pre,ms,g,h,l=>by
  obtain⟨m,v,h1⟩:=aE.1 (show oB (wH ms o.after.toList 0) (λm=>JS os (nz ms [m]))=some g from h);rw[fC] at h1;obtain⟨q1,w⟩:=o5 v;have q:∀i,jX (ms++[m]) i ms.length↔∃e∈o.after.toList,Region.binds .any e/\(e.on=i\/jX ms i e.on):=λi=>by
   rw[r4 (m:=m) (by simp),w i];simp
  have hlen:=l.len;have key:nI (pre++[o]) (ms++[m]):=by
   refine⟨by grind,λj s e r u t=>?_,λi j k=>?_⟩
   ·by_cases p:j<pre.length
    ·rw[Zat p] at r;obtain⟨a,b,c⟩:=l.QdZ j s e r u t;grind [r5]
    ·have n:j=pre.length:=by
      grind
     grind [r5]
   ·by_cases p:j<pre.length
    ·rw[r5 ω] at k;obtain⟨s,e,a,b,c,d,f⟩:=l.back i j k;grind [r5]
    ·by_cases n:j=ms.length
     ·grind [r5]
     ·grind [DQ]
  have:=w7 (pre:=pre++[o]) h1 key;grind
theorem Qj (h:JS L []=some Z):nI L Z:=by
 have:=w7 (pre:=[]) h ⟨rfl,λj o e b=>by grind,λi j a=>by grind [DQ]⟩;assumption
theorem nI.lt (h:nI L Z):∀{j i:Nat},jX Z i j->i<j:=by
 intro j
 induction j using Nat.strongRecOn with
 | _ j d=>
  intro i a;obtain⟨o,e,_,_,_,b,c⟩:=h.back i j a;grind
theorem nI.trans (h:nI L Z):∀{j k i:Nat},jX Z i k->jX Z k j->jX Z i j:=by
 intro j
 induction j using Nat.strongRecOn with
 | _ j n=>
  intro k i d a;obtain⟨o,e,g,c,b,f,m⟩:=h.back k j a;obtain⟨_,_,l⟩:=h.QdZ j o e g c b;grind
theorem w8 {α:Type} {f:Nat->α->Bool}:∀{l:List α} {i:Nat},JT f l i->∀j x,l[j]?=some x->f (i+j) x
 | [],i,h,j,x,d=>by grind
 | a::l,i,h,j,x,d=>by
  have b:Bool.rec (motive:=λ_=>Bool) false (JT f l (i+1)) (f i a):=h;cases c:f i a with
  | false=>rw[c] at b;cases b
  | true=>
   rw[c] at b;cases j with
   | zero=>simp at d;subst d;exact c
   | succ j=>
    have:=w8 (f:=f) b j x (by assumption);grind
theorem w_ {α:Type} {f:α->Bool}:∀{l:List α},BK f l↔∃x∈l,f x
 | []=>by simp[BK]
 | a::l=>by
  show Bool.rec (motive:=λ_=>Bool) (BK f l) true (f a)↔_
  have:=w_ (f:=f) (l:=l);cases h:f a<;>simp[h,this]
def Reads (L:List Oper) (o:Oper) (t:Tmp):Prop:=some t∈pR L o
theorem Au {o:Oper} {t:Tmp}:Reads L o t↔reads L o t:=by
 unfold Reads pR reads;rw[pS,Zbf,ZcL];have h1:(BK (BP t) o.op.operands.toList)↔∃x∈o.op.operands.toList,PJ x=some t:=by
  rw[w_];constructor
  ·rintro⟨x,a,h⟩;refine⟨x,a,?_⟩;cases x<;>simp only[BP] at h<;>(try cases h);rw[aN.1 h];rfl
  ·rintro⟨x,a,h⟩;refine⟨x,a,?_⟩;cases x<;>simp only[PJ] at h<;>cases h;exact ZdY _
 rw[<-h1];generalize BK (BP t) o.op.operands.toList=b;cases BQ L o with
 | none=>cases b<;>simp
 | some g=>
  grind [aN]
structure xa (P:Program) (L:List Oper) (ms:List Nat):Prop extends nI L ms where
 rd:∀(i j:Nat) (oi oj:Oper) (d:Tmp),L[i]?=some oi->L[j]?=some oj->i≠j->oj.dst=some d->Reads L oi d->jX ms i j=true\/jX ms j i=true
 wr:∀(i j:Nat) (oi oj:Oper) (d:Tmp),L[i]?=some oi->L[j]?=some oj->i≠j->oj.dst=some d->oi.dst≠some d
 eff:∀(i j:Nat) (oi oj:Oper),L[i]?=some oi->L[j]?=some oj->i≠j->iG P oi=3->iG P oj=3->jX ms i j=true\/jX ms j i=true
 rH:∀(i:Nat) (oi:Oper),L[i]?=some oi->∀cs b,oi.op≠.select cs b
 gd:∀(i:Nat) (oi:Oper) (g:Nat) (b:Bool),L[i]?=some oi->oi.guard=some (g,b)->jX ms g i=true
theorem zv {P:Program} {L:List Oper} {ms:List Nat} (h:Du P L=some ms):xa P L ms:=by
 obtain⟨u,t,h1⟩:=aE.1 h;obtain⟨v,s⟩:=lO.1 h1;cases s;have o:=Qj t;have hi:∀i a,L[i]?=some a->PH a/\BR ms i a/\∀j c,L[j]?=some c->PG P L ms i j a c:=λi a k=>by
  grind [w8]
 have p:∀i j a c,L[i]?=some a->L[j]?=some c->i≠j->(∀d,c.dst=some d->(ordered ms i j\/reads L a d=false)/\a.dst≠some d)/\((iG P a=3/\iG P c=3)->ordered ms i j):=by
  intro i j a c k l f;rcases or2 ((hi i a k).2.2 j c l) with m | m
  ·simp_all
  ·obtain⟨r,w⟩:=l8 m;refine⟨λd n=>?_,λ⟨q,e2⟩=>?_⟩
   ·rw[n] at r;obtain⟨x,y⟩:=l8 r;refine⟨?_,λe=>?_⟩
    ·grind
    ·simp_all
   ·simp_all
 refine⟨o,λi j a c d k l f n A=>?_,λi j a c d k l f n=>((p i j a c k l f).1 d n).2,λi j a c k l f q e2=>or2 ((p i j a c k l f).2 ⟨q,e2⟩),λi a k cs b e=>?_,λi a g b k z=>?_⟩
 ·rcases((p i j a c k l f).1 d n).1 with m | m
  ·exact or2 m
  ·grind [Au]
 ·grind [PH]
 ·have:=(hi i a k).2.1;unfold BR at this;simp_all
section
variable {P:Program} {D:Data} {cd:TypeId->Option Nat} {mu:Bool} {ex:uj D.E} {L:List Oper} {N:Nat} {ms:List Nat}
theorem nJ {φ:T (AV D.E)}:∀{c:List (Option Tmp)} {b a:T (AV D.E)},(z7 D φ c b).H a->∀t,a.get t=if some t∈c/\φ.get t≠none then φ.get t else b.get t
 | [],b,a,h,t=>by cases aq.1 (show(C.ret b).H a from h);simp
 | none::c,b,a,h,t=>by
  rw[nJ (show(z7 D φ c b).H a from h) t];simp
 | some x::c,b,a,h,t=>by
  have d:(Option.rec (motive:=λ_=>C (T (AV D.E))) (z7 D φ c b) (λv=>az (cR (b.put x (some v))) λb=>z7 D φ c b) (φ.get x):C (T (AV D.E))).H a:=h;cases e:φ.get x with
  | none=>
   rw[e] at d;rw[nJ d t];grind
  | some v=>
   rw[e] at d;obtain⟨g,h1,f⟩:=ai.1 d;rw[bD] at h1;rw[nJ f t,T.ea _ _ _ _ h1 t];grind
def PHI (L:List Oper) (a:T (AV D.E)) (rs:List (Rc D)) (φ:T (AV D.E)):Prop:=
 (∀(j:Nat) (r:Rc D) (o:Oper) (d:Tmp),rs[j]?=some r->L[j]?=some o->o.dst=some d->φ.get d=some r.v)/\∀t,(∀(j:Nat) (r:Rc D) (o:Oper),rs[j]?=some r->L[j]?=some o->o.dst≠some t)->φ.get t=a.get t
def fU (es:List Nat) (k:Nat):Nat:=match k with
 | 0=>0
 | k+1=>es.getD k 0+1
structure Qk (P:Program) (D:Data) (cd:TypeId->Option Nat) (mu:Bool) (ex:uj D.E) (L:List Oper) (ms:List Nat) (φ0:T (AV D.E)) (rs:List (Rc D)) (hs:List (T (AO D.E))) (es:List Nat) (i:Nat) (o:Oper) (r:Rc D):Prop where
 op:r.o=o
 le:r.lo<=r.hi
 fr:∃φ,PHI L φ0 (rs.take i) φ/\∀t,(Reads L o t->r.φ.get t=φ.get t)/\(¬Reads L o t->r.φ.get t=none)
 kind:(r.cls=0/\(mj D L r.φ o).H false/\r.v=undef/\r.hi=r.lo)\/
  (r.cls=1/\(mj D L r.φ o).H true/\iG P o=1/\(JV P D cd mu r.g o.op XD ⟨.nil,r.lo⟩ r.φ).H (r.v,⟨r.pc,r.hi⟩)/\r.hi<=r.lo+1)\/
  (r.cls=2/\(mj D L r.φ o).H true/\iG P o=2/\r.hi=r.lo)\/
  (r.cls=3/\(mj D L r.φ o).H true/\iG P o=3/\∃(k:Nat) (h h' K:T (AO D.E)) (last:Nat),es[k]?=some i/\hs[k]?=some h/\hs[k+1]?=some h'/\last=fU es k/\
   (kC D (λj=>Bool.and (jX ms j i) (b_ ms last j)) (rs.take i) 0 h).H K/\(JV P D cd mu r.g o.op ex ⟨K,r.lo⟩ r.φ).H (r.v,⟨h',r.hi⟩))
structure o6 (P:Program) (D:Data) (cd:TypeId->Option Nat) (mu:Bool) (ex:uj D.E) (L:List Oper) (N:Nat) (ms:List Nat) (φ0:T (AV D.E)) (s:St D.E) (i:Nat) (d:Ds D):Prop where
 len:d.rs.length=i
 phi:PHI L φ0 d.rs d.φ
 rc:∀(j:Nat) (o:Oper) (r:Rc D),L[j]?=some o->d.rs[j]?=some r->Qk P D cd mu ex L ms φ0 d.rs d.hs d.es j o r
 qX:d.hs.length=d.es.length+1
 a8:d.hs[d.es.length]?=some d.h
 h0:d.hs[0]?=some s.h
 last:d.last=fU d.es d.es.length
 esr:∀(k e:Nat),d.es[k]?=some e->e<i/\∃r,d.rs[e]?=some r/\r.cls=3
 ese:∀(e:Nat) (r:Rc D),d.rs[e]?=some r->r.cls=3->∃k:Nat,d.es[k]?=some e
 inc:∀k l e f:Nat,k<l->d.es[k]?=some e->d.es[l]?=some f->e<f
 o7:s.nx<=d.nx/\∀(j:Nat) (r:Rc D),d.rs[j]?=some r->s.nx<=r.lo/\r.hi<=d.nx
 apart:∀(j k:Nat) (r q:Rc D),j<k->d.rs[j]?=some r->d.rs[k]?=some q->r.hi<=q.lo
 dst:∀(j:Nat) (o:Oper) (d':Tmp),j<i->L[j]?=some o->o.dst=some d'->d'<N
variable {i:Nat} {U:T (AV D.E)} {o:Oper} {s:St D.E} {A:List (T (AO D.E))} {y:List Nat}
theorem Qk.grow {rs e:List (Rc D)} {d:List (T (AO D.E))} {c:List Nat} {r:Rc D} (h:Qk P D cd mu ex L ms U rs A y i o r) (h1:e.take i=rs.take i) (g:∀(k:Nat) (x:T (AO D.E)),A[k]?=some x->d[k]?=some x) (p:∀(k x:Nat),y[k]?=some x->c[k]?=some x):Qk P D cd mu ex L ms U e d c i o r:=by
 refine⟨h.op,h.le,by rw[h1];exact h.fr,?_⟩;rcases h.kind with k | k | k | ⟨k1,k2,k3,k,a,b,K,last,j,e2,l,m,q,n⟩
 ·grind
 ·grind
 ·grind
 ·refine .inr (.inr (.inr ⟨k1,k2,k3,k,a,b,K,last,p _ _ j,g _ _ e2,g _ _ l,?_,by grind,n⟩));cases k with
  | zero=>exact m
  | succ k=>
   grind [fU]
theorem gu {α:Type} {l:List α} {a:α} {x:α} (h:(l++[a])[i]?=some x):(l[i]?=some x)\/(i=l.length/\x=a):=by
 grind
theorem Ql {α:Type} {l:List α} {a:α} {x:α} (h:l[i]?=some x):(l++[a])[i]?=some x:=by
 grind
theorem o6.step {d:Ds D} {r:Rc D} {S C:T (AV D.E)} (a:o6 P D cd mu ex L N ms U s i d) (hL:xa P L ms) (ho:L[i]?=some o) (hψ:(z7 D d.φ (pR L o) .nil).H C)
  (hφ:(wK D N d.φ o.dst r.v).H S) (hr1:r.o=o) (R:r.φ=C) (hr3:r.lo=d.nx) (hr4:r.lo<=r.hi) {M:T (AO D.E)} {m:Nat}
  (G:(r.cls≠3/\M=d.h/\A=d.hs/\y=d.es/\m=d.last)\/(r.cls=3/\A=d.hs++[M]/\y=d.es++[i]/\m=i+1))
  (kind:(r.cls=0/\(mj D L C o).H false/\r.v=undef/\r.hi=r.lo)\/
   (r.cls=1/\(mj D L C o).H true/\iG P o=1/\(JV P D cd mu r.g o.op XD ⟨.nil,r.lo⟩ C).H (r.v,⟨r.pc,r.hi⟩)/\r.hi<=r.lo+1)\/
   (r.cls=2/\(mj D L C o).H true/\iG P o=2/\r.hi=r.lo)\/
   (r.cls=3/\(mj D L C o).H true/\iG P o=3/\∃K,(kC D (λj=>Bool.and (jX ms j i) (b_ ms d.last j)) d.rs 0 d.h).H K/\(JV P D cd mu r.g o.op ex ⟨K,r.lo⟩ C).H (r.v,⟨M,r.hi⟩))):
  o6 P D cd mu ex L N ms U s (i+1) ⟨S,M,A,r.hi,m,y,d.rs++[r]⟩:=by
 obtain⟨p1,p2⟩:=As hφ;have hlen:=a.len;have J:∀(k:Nat) (x:T (AO D.E)),d.hs[k]?=some x->A[k]?=some x:=λk x hx=>by
  grind
 have Z:∀(k x:Nat),d.es[k]?=some x->y[k]?=some x:=λk x hx=>by
  grind
 have u:∀j,j<=i->(d.rs++[r]).take j=d.rs.take j:=λj O=>by grind
 have htl:d.rs.take i=d.rs:=ZaA ω;refine⟨by grind,⟨λj q B V c b z=>?_,λt ht=>?_⟩,λj B q b c=>?_,?_,?_,?_,?_,λk e n=>?_,λe q c hc=>?_,λk l e f Q n X=>?_,⟨by have:=a.o7.1;simp only;omega,λj q c=>?_⟩,λj k q p hjk c hp=>?_,λj B V O b z=>?_⟩
 ·rw[p2];rcases gu c with c | ⟨rfl,rfl⟩
  ·have O:j<i:=by grind
   rw[Zaa (λe=>hL.wr i j o B V ho b ω z e)];exact a.phi.1 j q B V c b z
  ·grind
 ·rw[p2];rw[Zaa (ht i r o (by simp[hlen]) ho)];exact a.phi.2 t λj q B c b=>ht j q B (Ql c) b
 ·rcases gu c with c | ⟨rfl,rfl⟩
  ·have O:j<i:=by grind
   exact(a.rc j B q b c).grow (u j ω) J Z
  ·rw[hlen] at b ⊢;rw[ho] at b;cases b;refine⟨hr1,hr4,⟨d.φ,by rw[u i (Zah _),htl];exact a.phi,λt=>?_⟩,?_⟩
   ·rw[R,nJ hψ t,T.get_nil];unfold Reads;simp_all
   ·rw[R];rcases kind with k | k | k | ⟨k1,k2,k3,K,k4,k5⟩
    ·exact .inl k
    ·grind
    ·grind
    ·rcases G with⟨e,_⟩ | ⟨_,w,e2,W⟩
     ·omega
     ·refine .inr (.inr (.inr ⟨k1,k2,k3,d.es.length,d.h,M,K,d.last,by rw[e2];simp,J _ _ a.a8,by rw[w,<-a.qX];simp,?_,by grind,k5⟩));rw[a.last];cases hk:d.es.length with
      | zero=>rfl
      | succ k=>
       grind [fU]
 ·rcases G with⟨_,_,w,e2,_⟩ | ⟨_,w,e2,_⟩
  ·rw[w,e2];exact a.qX
  ·rw[w,e2];simp[a.qX]
 ·rcases G with⟨_,Y,w,e2,_⟩ | ⟨_,w,e2,_⟩
  ·rw[w,e2,Y];exact a.a8
  ·rw[w,e2];simp[<-a.qX]
 ·exact J _ _ a.h0
 ·rcases G with⟨_,_,_,e2,W⟩ | ⟨_,_,e2,W⟩
  ·rw[e2,W];exact a.last
  ·rw[e2,W];simp[fU]
 ·rcases G with⟨_,_,_,e2,_⟩ | ⟨Y,_,e2,_⟩
  ·rw[e2] at n;obtain⟨h1,q,h2,h3⟩:=a.esr k e n;grind
  ·rw[e2] at n;rcases gu n with n | ⟨_,rfl⟩
   ·obtain⟨h1,q,h2,h3⟩:=a.esr k e n;grind
   ·grind
 ·rcases gu c with c | ⟨rfl,rfl⟩
  ·obtain⟨k,hk⟩:=a.ese e q c hc;grind
  ·rcases G with⟨Y,_⟩ | ⟨_,_,e2,_⟩
   ·omega
   ·exact⟨d.es.length,by grind⟩
 ·rcases G with⟨_,_,_,e2,_⟩ | ⟨_,_,e2,_⟩
  ·rw[e2] at n X;exact a.inc k l e f Q n X
  ·rw[e2] at n X;rcases gu X with hf2 | ⟨hl,rfl⟩
   ·rcases gu n with F | ⟨hk,rfl⟩
    ·exact a.inc k l e f Q F hf2
    ·grind
   ·rcases gu n with F | ⟨hk,rfl⟩
    ·exact(a.esr k e F).1
    ·omega
 ·rcases gu c with c | ⟨rfl,rfl⟩
  ·obtain⟨h1,h2⟩:=a.o7.2 j q c;grind
  ·have:=a.o7.1;grind
 ·rcases gu hp with hp2 | ⟨hk,rfl⟩
  ·rcases gu c with I | ⟨O,rfl⟩
   ·exact a.apart j k q p hjk I hp2
   ·grind
  ·rcases gu c with I | ⟨O,rfl⟩
   ·have:=(a.o7.2 j q I).2;omega
   ·omega
 ·by_cases hji:j<i
  ·exact a.dst j B V hji b z
  ·grind
def GD {d G:Ds D} (q:o6 P D cd mu ex L N ms U s i d) (p:xa P L ms) (t:L[i]?=some o) (h:(BS P D cd mu ex L N ms i o d).H G):o6 P D cd mu ex L N ms U s (i+1) G:=by
 obtain⟨w,a,h1⟩:=ai.1 h;obtain⟨b,hw,h0⟩:=ai.1 h1;rcases gY.1 h0 with⟨rfl,B⟩ | ⟨rfl,B⟩
 ·rcases gY.1 B with⟨I,f⟩ | ⟨I,f⟩
  ·obtain⟨v,u,c,n⟩:=bq.1 f;obtain⟨e,g,j⟩:=ai.1 n;obtain⟨k,C⟩:=bA.1 j;obtain⟨q1,J⟩:=l8 k;cases aq.1 C;rw[fC];exact q.step (r:=⟨o,guards L i,1,v,w,d.nx,u.nx,u.h⟩) p t a g rfl rfl rfl (cw.1 q1) (.inl ⟨by simp,rfl,rfl,rfl,rfl⟩) (.inr (.inl ⟨rfl,hw,aN.1 I,c,cw.1 J⟩))
  ·rcases gY.1 f with⟨l,c⟩ | ⟨l,c⟩
   ·obtain⟨v,n,g⟩:=ai.1 c;obtain⟨e,j,k⟩:=ai.1 g;cases aq.1 k;rw[fC];exact q.step (r:=⟨o,guards L i,2,v,w,d.nx,d.nx,.nil⟩) p t a j rfl rfl rfl (Zah _) (.inl ⟨by simp,rfl,rfl,rfl,rfl⟩) (.inr (.inr (.inl ⟨rfl,hw,aN.1 l,rfl⟩)))
   ·obtain⟨F,n⟩:=bA.1 c;obtain⟨K,g,j⟩:=ai.1 n;obtain⟨v,u,k,C⟩:=bq.1 j;obtain⟨e,x,y⟩:=ai.1 C;obtain⟨z,A⟩:=bA.1 y;cases aq.1 A;rw[fC,fC,fC];exact q.step (r:=⟨o,guards L i,3,v,w,d.nx,u.nx,.nil⟩) p t a x rfl rfl rfl (cw.1 z) (.inr ⟨rfl,rfl,rfl,rfl⟩) (.inr (.inr (.inr ⟨rfl,hw,aN.1 F,K,g,k⟩)))
 ·obtain⟨e,f,c⟩:=ai.1 B;cases aq.1 c;rw[fC];exact q.step (r:=⟨o,guards L i,0,undef,w,d.nx,d.nx,.nil⟩) p t a f rfl rfl rfl (Zah _) (.inl ⟨by simp,rfl,rfl,rfl,rfl⟩) (.inl ⟨rfl,hw,rfl,rfl⟩)
theorem xb (g:xa P L ms):∀{l pre:List Oper} {d a:Ds D},pre++l=L->o6 P D cd mu ex L N ms U s pre.length d->(BU P D cd mu ex L N ms l pre.length d).H a->o6 P D cd mu ex L N ms U s L.length a
 | [],pre,d,a,hl,i,h=>by
  cases aq.1 (show(C.ret d).H a from h);grind
 | o::l,pre,d,a,hl,i,h=>by
  obtain⟨k,h1,f⟩:=ai.1 (show(az (BS P D cd mu ex L N ms pre.length o d) (λd=>BU P D cd mu ex L N ms l (pre.length+1) d)).H a from h);have j:L[pre.length]?=some o:=by grind
  have b:=GD i g j h1;have e:(pre++[o]).length=pre.length+1:=by simp
  rw[<-e] at b f;exact xb g (by grind) b f
theorem o6.start (s:St D.E) (φ:T (AV D.E)):o6 P D cd mu ex L N ms φ s 0 ⟨φ,s.h,[s.h],s.nx,0,[],[]⟩:=
 ⟨rfl,⟨λj r o d h=>by simp at h,λt _=>rfl⟩,λj o r _ h=>by simp at h,rfl,rfl,rfl,rfl,λk e h=>by simp at h,λe r h=>by simp at h,λk l e f _ h=>by simp at h,⟨Zah _,λj r h=>by simp at h⟩,λj k r q _ h=>by simp at h,λj o d h=>ω⟩
end
section
variable {D:Data}
variable {Z:Rc D} {Y:List (Rc D)}
noncomputable def uY (rH:Nat->Bool):List (Rc D)->Nat->Nat->Option (AO D.E)
 | [],_,_=>none
 | r::rs,j,b=>if piece D r=true/\rH j=true/\r.lo=b then r.pc.get b else uY rH rs (j+1) b
theorem tl (rH:Nat->Bool) (r:Rc D) (rs:List (Rc D)) (j b:Nat):uY rH (r::rs) j b=if piece D r/\rH j/\r.lo=b then r.pc.get b else uY rH rs (j+1) b:=rfl
def iu (rs:List (Rc D)):Prop:=∀(j k:Nat) (r q:Rc D),j<k->rs[j]?=some r->rs[k]?=some q->r.hi<=q.lo
def iu.tail (h:iu (Z::Y)):iu Y:=λj k Z q a c b=>h (j+1) (k+1) Z q ω (by assumption) (by assumption)
theorem kH (h:piece D Z):Z.cls=1/\Z.lo<Z.hi:=by
 obtain⟨h1,a⟩:=l8 h;grind [aN,cw]
def iu.head {q:Rc D} {k:Nat} (h:iu (Z::Y)) (a:piece D Z) (b:Y[k]?=some q):Z.lo≠q.lo:=by
 have:=h 0 (k+1) Z q ω rfl (by assumption);have:=(kH a).2;omega
def iu.uniq {j k:Nat} {q:Rc D} (h:iu Y) (c:Y[j]?=some Z) (b:Y[k]?=some q) (p:piece D Z) (p2:piece D q) (e:Z.lo=q.lo):j=k:=by
 rcases Zcs j k with a | rfl | a
 ·have:=h j k Z q a c b;have:=(kH p).2;omega
 ·rfl
 ·have:=h k j q Z a b c;have:=(kH p2).2;omega
theorem jC {rH:Nat->Bool}:∀{rs:List (Rc D)} {j0 b:Nat} {o:AO D.E},iu rs->(uY rH rs j0 b=some o↔∃(j:Nat) (r:Rc D),rs[j]?=some r/\piece D r/\rH (j0+j)/\r.lo=b/\r.pc.get b=some o)
 | [],j0,b,o,_=>by simp[uY]
 | r::rs,j0,b,o,hA=>by
  have g:=jC (rH:=rH) (j0:=j0+1) (b:=b) (o:=o) hA.tail;rw[tl];by_cases a:piece D r/\rH j0/\r.lo=b
  ·rw[Zac a];constructor
   ·intro h;exact⟨0,r,rfl,a.1,a.2.1,a.2.2,h⟩
   ·rintro⟨j,q,h1,e,f,c,d⟩;cases j with
    | zero=>cases(show some r=some q from h1);exact d
    | succ j=>exact absurd (a.2.2.trans c.symm) (hA.head a.1 (by assumption))
  ·rw[Zaa a,g];constructor
   ·rintro⟨j,q,h1,e,f,c,d⟩;exact⟨j+1,q,by assumption,e,by grind,c,d⟩
   ·grind
theorem kI {rH:Nat->Bool}:∀{rs:List (Rc D)} {a:Nat} {h d:T (AO D.E)},(kC D rH rs a h).H d->iu rs->∀b,d.get b=match uY rH rs a b with
  | some o=>some o
  | none=>h.get b
 | [],a,h,d,e,_,b=>by cases aq.1 (show(C.ret h).H d from e);rfl
 | r::rs,a,h,d,e,hA,b=>by
  rcases gY.1 (show(bE (Bool.and (piece D r) (rH a)) (az (cR (r.pc.get r.lo)) λo=>az (cR (h.put r.lo (some o))) λh=>kC D rH rs (a+1) h) (kC D rH rs (a+1) h)).H d from e) with⟨g,h1⟩ | ⟨g,h1⟩
  ·obtain⟨k,hs⟩:=l8 g;obtain⟨o,i,f⟩:=ai.1 h1;obtain⟨l,c,m⟩:=ai.1 f;rw[bD] at i c;rw[kI m hA.tail b,T.ea _ _ _ _ c b];rw[tl];by_cases s:b=r.lo
   ·subst s;rw[Zac (show piece D r/\rH a/\r.lo=r.lo from⟨k,hs,rfl⟩),i,Zac rfl];cases t:uY rH rs (a+1) r.lo with
    | none=>rfl
    | some q=>
     obtain⟨j,x,n,_,_,p,_⟩:=(jC hA.tail).1 t;exact absurd p.symm (hA.head k n)
   ·grind
  ·have u:¬(piece D r/\rH a/\r.lo=b):=λ⟨f,l,_⟩=>by grind
   rw[kI h1 hA.tail b];grind [tl]
end
section
variable {D:Data} {M:Pm D}
variable {u:Unit} {x y:AV D.E}
theorem p_ {b:Bool} (h:(wI b).H u):b:=(bA.1 h).1
theorem xc {v:Value} (h:(wJ x y).H u) (d:VR M x v):VR M y v:=by
 cases x<;>simp only[wJ] at h<;>(try exact h.elim)
 case bool a=>
  obtain⟨b,p,h1,e⟩:=bq.1 h;obtain⟨rfl,_⟩:=cK.1 e;cases y<;>simp only[zh] at h1<;>(try exact h1.elim)
  ·grind [aq]
  ·cases aq.1 h1;cases d;exact .lit _
 case lit a=>
  cases y<;>simp only at h<;>(try exact h.elim)
  ·obtain⟨rfl,_⟩:=cK.1 h;cases d;exact .bool _
  ·have h1:=p_ h
   rename_i b
   cases a<;>cases b<;>first | exact d | cases h1
 case int k a=>
  obtain⟨l,b,h1,e⟩:=bq.1 h;obtain⟨f,g⟩:=bA.1 e;obtain⟨rfl,_⟩:=cK.1 g;obtain rfl:=fZ.1 f;cases y<;>simp only[cT] at h1<;>(try exact h1.elim)
  ·grind [aq]
  ·cases aq.1 h1;cases d;exact .num (by assumption)
 case num k a=>
  cases y<;>simp only at h<;>(try exact h.elim)
  ·obtain⟨f,g⟩:=bA.1 h;obtain⟨rfl,_⟩:=cK.1 g;obtain rfl:=fZ.1 f;cases d;exact .int (by assumption)
  ·grind [bA,fZ,p_,qV]
 case str a=>
  obtain⟨b,h1,e⟩:=ai.1 h;obtain⟨rfl,_⟩:=cK.1 e;cases y<;>simp only[fY] at h1<;>(try exact h1.elim);grind [aq]
 case fT=>cases y<;>simp only at h<;>first | exact h.elim | exact d
 case ptr b o=>
  cases y<;>simp only at h<;>(try exact h.elim);grind [p_,aN]
 case kA b o=>
  cases y<;>simp only at h<;>(try exact h.elim);grind [p_,aN]
 case mg b k i j=>
  cases y<;>simp only at h<;>(try exact h.elim);grind [bA,cK,aN]
 case nA c x j=>
  cases y<;>simp only at h<;>(try exact h.elim);grind [bA,ai,Ka,cK,aN]
 case dF=>cases y<;>simp only at h<;>first | exact h.elim | exact d
 case own b k n=>
  cases y<;>simp only at h<;>(try exact h.elim);grind [bA,cK,aN]
 case pre b k n=>
  cases y<;>simp only at h<;>(try exact h.elim);grind [bA,cK,aN]
 case part b k o n=>
  cases y<;>simp only at h<;>(try exact h.elim);grind [bA,cK,aN]
 case grow c xs b=>
  cases y<;>simp only at h<;>(try exact h.elim);grind [bA,ai,cQ,cK,aN]
 case sub b o n=>
  cases y<;>simp only at h<;>(try exact h.elim);grind [p_,aN]
 case list c xs=>
  cases y<;>simp only at h<;>(try exact h.elim);grind [ai,cQ,cK]
 case qB=>cases y<;>simp only at h<;>first | exact h.elim | exact d
 case map b=>
  cases y<;>simp only at h<;>(try exact h.elim);grind [aN,p_]
 case nilFunc=>cases y<;>simp only at h<;>first | exact h.elim | exact d
 case nilIface=>cases y<;>simp only at h<;>first | exact h.elim | exact d
theorem o8:∀{xs a:List (AV D.E)} {u:Unit} {b:List Value},(z6 xs a).H u->LR M xs b->LR M a b
 | [],[],_,_,_,h=>h
 | [],_::_,_,_,h,_=>(h:False).elim
 | _::_,[],_,_,h,_=>(h:False).elim
 | x::xs,y::a,u,b,h,hl=>by
  obtain⟨_,h1,c⟩:=ai.1 (show(az (wJ x y) λ_=>z6 xs a).H u from h);obtain⟨f,r,rfl,e,d⟩:=hl.aM;exact .cons (xc h1 e) (o8 c d)
theorem Kg {f g:Fn} (h:X0 f g):f=g:=by
 cases f<;>simp only[X0] at h<;>(try cases h);grind [aN]
def Qm {v:Value} (h:(PI x y).H u) (b:VR M x v):VR M y v:=by
 cases x<;>simp only[PI] at h<;>(try exact xc h b)
 case agg xs=>
  cases y<;>simp only at h<;>(try exact h.elim);cases b with
  | agg hl a=>exact(VR.DB (o8 h ⟨hl,a⟩):)
 case tuple xs=>
  cases y<;>simp only at h<;>(try exact h.elim);cases b with
  | tuple hl a=>exact(VR.DC (o8 h ⟨hl,a⟩):)
 case func f xs k=>
  cases y<;>simp only at h<;>(try exact h.elim);obtain⟨h0,h1⟩:=bA.1 h;obtain⟨_,i,j⟩:=ai.1 h1;obtain rfl:=Kg h0;cases b with
  | func _ hl a d c=>
   have e:=o8 i ⟨hl,a⟩;have g:=o8 j ⟨d,c⟩;exact .func _ e.1 e.2 g.1 g.2
end
section
variable {P:Program} {D:Data} {cd:TypeId->Option Nat} {ex:uj D.E} {φ:T (AV D.E)}
variable {Z:List (Rc D)} {v:AV D.E} {Y:List Nat}
def Qn:rY P D XD:=λ_f a c d b h=>h.elim
theorem MU {mu g:Bool} {o:Oper} {s:St D.E} {w:St D.E} (h:iG P o=2) (d:(JV P D cd mu g o.op XD s φ).H (v,w)):w=s:=by
 have p:∃v,(PF P D cd mu o.op XD s φ).H (v,w):=by
  unfold JV at d;cases hk:Gh cd with
  | true=>
   rw[hk] at d;obtain⟨Q,O,h1,q⟩:=bq.1 (show(aP (knw (PF P D cd mu o.op XD s φ)) λv s=>.ret (clo D v,s)).H (v,w) from d);cases aq.1 q;exact⟨_,QbF h1⟩
  | false=>
  rw[hk] at d;cases g with
  | false=>exact⟨v,d⟩
  | true=>
   obtain⟨Q,O,h1,q⟩:=bq.1 (show(aP (PF P D cd mu o.op XD s φ) λv s=>az (settle D v) λv=>.ret (v,s)).H (v,w) from d);grind [ai,aq]
 clear d;obtain⟨v,p⟩:=p;unfold iG at h;cases N:o.op<;>rw[N] at h p<;>simp only at h<;>(try cases h)
 case load t a=>
  obtain⟨_,_,h1⟩:=ai.1 p;exact(dK h1).2
 case lookup t x i ok=>exact(p:False).elim
 case convert src dst x=>
  obtain⟨u,_,h1⟩:=ai.1 p;obtain⟨F,z,q⟩:=ai.1 h1;obtain⟨C,_,f⟩:=ai.1 q;rw[gZ] at z;have A:QdF F=false:=by
   rw[z] at h;cases F<;>first | rfl | cases h
  cases u<;>simp only at f<;>(try exact f.elim)
  case int=>obtain⟨_,_,j⟩:=ai.1 f;cases aq.1 j;rfl
  case num=>obtain⟨_,_,j⟩:=ai.1 f;cases aq.1 j;rfl
  case str=>rw[A] at f;exact(f:False).elim
  case own b k n=>
   rcases gY.1 f with⟨_,f⟩ | ⟨_,f⟩
   ·obtain⟨_,_,j⟩:=ai.1 f;obtain⟨_,_,I⟩:=ai.1 j;obtain⟨_,J⟩:=bA.1 I;obtain⟨_,K⟩:=bA.1 J;obtain⟨_,_,L⟩:=ai.1 K;obtain⟨_,M⟩:=bA.1 L;obtain⟨_,_,B⟩:=ai.1 M;rcases gY.1 B with⟨_,y⟩ | ⟨_,y⟩
    ·exact y.elim
    grind [aq,cY]
   ·obtain⟨e,_,j⟩:=ai.1 f;cases C<;>simp only at j<;>(try exact j.elim);grind [ai,bA,aq]
  all_goals
   obtain⟨e,_,j⟩:=ai.1 f;cases C<;>simp only at j<;>(try exact j.elim);grind [ai,bA,aq]
 case call c=>
  cases l:c.callee with
  | value x=>rw[l] at h;cases h
  | invoke r m=>rw[l] at h;cases h
  | builtin b=>
   rw[l] at h;simp only at h;obtain⟨G,_,h1⟩:=ai.1 (show(az (Pt P D φ c.args.toList) λG=>ko P D cd mu b s c.argTypes.toList G).H (v,w) from(by simp only[PF] at p;rw[l] at p;exact p));cases b<;>simp only[QgH] at h<;>(try cases h);simp only[ko] at h1;obtain⟨_,_,q⟩:=ai.1 h1;obtain⟨_,_,f⟩:=ai.1 q;exact(dK f).2
theorem Qo {g:Bool} {o:Oper} {rH:Nat->Bool} {h:T (AO D.E)} (c:iG P o=2) (a:(loadAt P D cd g φ o rH Z h).H v):
  ∃k,(kC D rH Z 0 h).H k/\(JV P D cd false g o.op XD ⟨k,0⟩ φ).H (v,⟨k,0⟩):=by
 obtain⟨k,h1,b⟩:=ai.1 a;grind [bq,aq,MU]
theorem r6 {i:Nat} {r:Rc D}:∀{hs:List (T (AO D.E))} {last:Nat} {es:List Nat} {u:Unit},(kd P D cd Y Z i r hs last es).H u->∀(k:Nat) (h:T (AO D.E)),hs[k]?=some h->k<=es.length->
  oR Y i (match k with | 0=>last | k+1=>es.getD k 0+1) (es.drop k)->∃u,(BV P D cd Y Z i (match k with | 0=>last | k+1=>es.getD k 0+1) r h).H u
 | [],last,es,_,_,k,h,hk,_,_=>by simp at hk
 | h0::hs,last,es,u,hc,k,h,hk,hle,hm=>by
  obtain⟨_,h1,b⟩:=ai.1 (show(az (bE (oR Y i last es) (BV P D cd Y Z i last r h0) eV) λ_=>(List.rec (motive:=λ_=>C Unit) eV (λe es _=>kd P D cd Y Z i r hs (e+1) es) es:C Unit)).H u from hc);cases k with
  | zero=>
   grind [gY]
  | succ k=>
   cases es with
   | nil=>simp at hle
   | cons e es=>
    have c:(kd P D cd Y Z i r hs (e+1) es).H u:=b;have a:hs[k]?=some h:=by assumption
    have:=r6 c k h a (by grind);grind
theorem uw {hs:List (T (AO D.E))} {es:List Nat}:∀{l:List (Rc D)} {i:Nat} {u:Unit},(Gi P D cd Y Z hs es l i).H u->∀(j:Nat) (r:Rc D),l[j]?=some r->r.cls=2->∃u,(kd P D cd Y Z (i+j) r hs 0 es).H u
 | [],i,u,_,j,r,b,_=>by grind
 | a::l,i,u,h,j,r,b,hc=>by
  obtain⟨_,h1,c⟩:=ai.1 (show(az (bE (Nat.beq a.cls 2) (kd P D cd Y Z i a hs 0 es) eV) λ_=>Gi P D cd Y Z hs es l (i+1)).H u from h);cases j with
  | zero=>
   cases(show some a=some r from b);rcases gY.1 h1 with⟨_,d⟩ | ⟨d,_⟩
   ·grind
   ·simp_all
  | succ j=>
   have:=uw c j r (by assumption) hc;grind
end
section
variable {P:Program} {D:Data} {cd:TypeId->Option Nat} {mu:Bool} {ex:uj D.E} {ops:Array Oper} {N:Nat} {ms:List Nat} {φ0:T (AV D.E)} {s:St D.E} {d:Ds D} {M0:Pm D} {w0:World}
theorem cU.Qp {H d:Hp D} {M e:Pm D} {w g:World} {lo hi c a:Nat} (h:cU H M w d e g lo hi) (h1:c<=lo\/lo=hi) (k:hi<=a\/lo=hi) (i:c<=a):cU H M w d e g c a:=
 ⟨h.fJ,λb f=>h.ext b ω,h.J7,h.lP,h.size,h.aO,h.born,λb f=>by
  rcases h.MN b f with j | j
  ·grind
  ·exact .inr ω,h.os,h.tape,h.output,i⟩
theorem cU.Qd1 {H n f:Hp D} {M p g:Pm D} {w r i:World} {lo hi:Nat} (h:cU H M w n p r lo hi) (k:cU n p r f g i lo hi):cU H M w f g i lo hi:=by
 refine⟨k.fJ,λb a=>by rw[k.ext b a,h.ext b a],λb o v e=>k.J7 _ _ _ (h.J7 _ _ _ e),λb o a=>?_,Zav h.size k.size,λc q y=>?_,λb o C a u z=>?_,λb a=>?_,k.os.trans h.os,k.tape.trans h.tape,k.output.trans h.output,h.le⟩
 ·rcases k.lP b o a with d | d | d
  ·exact h.lP b o d
  ·exact .inr (.inl (Zav h.size d))
  ·exact .inr (h.wrt d)
 ·rw[k.aO c (ZbB q h.size) λhw=>?_,h.aO c q y];rcases h.wrt hw with d | d
  ·omega
  ·grind
 ·rcases k.born b o C a u z with hs | ⟨b1,F,m,lG,j,l,t,B⟩
  ·exact .inl (Zav h.size hs)
  ·rcases h.born b1 F m lG j l with hs | ⟨G,J,E,s,x,A,I,hw⟩
   ·omega
   ·grind
 ·rcases k.MN b a with lG | lG
  ·exact h.MN b lG
  ·omega
noncomputable def SG (d:Ds D) (ms:List Nat) (E:Nat->Bool) (k:Nat):Hp D:=λb=>match (d.hs.getD k .nil).get b with
 | some o=>some o
 | none=>uY (λj=>E j&&b_ ms (fU d.es k) j) d.rs 0 b
structure Inv (ops:Array Oper) (N:Nat) (ms:List Nat) (φ0:T (AV D.E)) (s:St D.E) (d:Ds D) (M0:Pm D) (w0:World) (E:Nat->Bool) (a:Act) (w:World) (k:Nat) (M:Pm D):Prop where
 kle:k<=d.es.length
 ek:∀(l e:Nat),d.es[l]?=some e->(E e=true↔l<k)
 GF:cU s.h.get M0 w0 (SG d ms E k) M w s.nx d.nx
 fresh:∀(i:Nat) (r:Rc D),d.rs[i]?=some r->E i=false->bV M r.lo r.hi
 fr1:∀(i:Nat) (o:Oper) (r:Rc D) (t:Tmp),ops.toList[i]?=some o->d.rs[i]?=some r->o.dst=some t->E i=true->VR M r.v (a.tmps.getD t Go.undef)
 fr2:∀t:Tmp,(∀(i:Nat) (o:Oper),ops.toList[i]?=some o->E i=true->o.dst≠some t)->∀v,φ0.get t=some v->VR M v (a.tmps.getD t Go.undef)
 size:a.tmps.size=N
 defers:a.defers=[]
 i1:∀(j:Nat) (r:Rc D),E j=true->d.rs[j]?=some r->piece D r=true->b_ ms (fU d.es k) j=true->(d.hs.getD k .nil).get r.lo=none
 down:∀i j,jX ms i j=true->E j=true->E i=true
variable {k j:Nat} {E:Nat->Bool}
theorem GG {ms:List Nat} {es:List Nat}:b_ ms (fU es k) j↔(k=0\/jX ms j (es.getD (k-1) 0)=false):=by
 cases k with
 | zero=>exact⟨λ_=>.inl rfl,λ_=>rfl⟩
 | succ k=>
  show Bool.not (jX ms j (es.getD k 0))↔_
  simp
theorem iK (a:iu d.rs) {o:AO D.E}:SG d ms E k j=some o↔(d.hs.getD k .nil).get j=some o\/((d.hs.getD k .nil).get j=none/\∃(b:Nat) (r:Rc D),d.rs[b]?=some r/\piece D r/\E b/\b_ ms (fU d.es k) b/\r.lo=j/\r.pc.get j=some o):=by
 unfold SG;grind [jC]
def ins (E:Nat->Bool) (i:Nat):Nat->Bool:=λj=>decide (j=i)||E j
theorem r7 (E:Nat->Bool) (i:Nat):ins E i i:=by simp[ins]
theorem kJ (h:j≠k):ins E k j=E j:=by simp[ins,h]
def Ca (h:E j):ins E k j:=by simp[ins,h]
theorem Kh {h:T (AO D.E)} (e:d.hs[k]?=some h):d.hs.getD k .nil=h:=by grind
structure Nx (ops:Array Oper) (ms:List Nat) (E:Nat->Bool) (i:Nat) (o:Oper) (r:Rc D) (d:Ds D):Prop where
 o:ops.toList[i]?=some o
 r:d.rs[i]?=some r
 no:E i=false
 pre:∀j,jX ms j i=true->E j=true
variable {E:Nat->Bool} {i k:Nat} {o:Oper} {Z:Rc D} {a:Act} {w:World} {M:Pm D}
theorem Nx.eff (n:Nx ops ms E i o Z d) (h:Inv ops N ms φ0 s d M0 w0 E a w k M):b_ ms (fU d.es k) i:=by
 rw[GG];cases k with
 | zero=>exact .inl rfl
 | succ k=>
  right;cases b:jX ms i (d.es.getD k 0) with
  | false=>simpa using b
  | true=>
   have hk:k<d.es.length:=by have:=h.kle;omega
   have c:=Zaf hk;have e2:d.es.getD k 0=d.es[k]:=by grind
   have e:=(h.ek k d.es[k] c).2 ω;rw[e2] at b;have:=h.down i _ b e;rw[n.no] at this;cases this
theorem Inv.frame (Q:o6 P D cd mu ex ops.toList N ms φ0 s ops.toList.length d) (A:xa P ops.toList ms) (h:Inv ops N ms φ0 s d M0 w0 E a w k M) (n:Nx ops ms E i o Z d):
  ∃a2:Act,FR M Z.φ a2 N/\execOp a2.eval o=execOp a.eval o/\Region.wanted o (yielded ops a2.tmps)=Region.wanted o (yielded ops a.tmps):=by
 have rc:=Q.rc i o Z n.o n.r;obtain⟨φ,⟨p1,p2⟩,p3⟩:=rc.fr;have W:∀t,Reads ops.toList o t->∀v,Z.φ.get t=some v->VR M v (a.tmps.getD t Go.undef):=by
  intro t ht v z;rw[(p3 t).1 ht] at z;by_cases hex:∃(j:Nat) (l:Oper),ops.toList[j]?=some l/\l.dst=some t/\j<i
  ·obtain⟨j,l,h1,F,r⟩:=hex;have J:j<d.rs.length:=by rw[Q.len];exact(Zam.1 h1).1
   have T:=Zaf J;rw[p1 j d.rs[j] l t (by grind) h1 F] at z;cases z;rcases A.rd i j o l t n.o h1 ω F ht with y | y
   ·have:=A.tonI.lt y;omega
   ·exact h.fr1 j l d.rs[j] t h1 T F (n.pre j y)
  ·rw[p2 t (λj q l O m e=>hex ⟨j,l,m,e,by
    rw[Za7] at O;split at O
    ·assumption
    ·cases O⟩)] at z
   refine h.fr2 t (λj l m H e=>?_) v z;by_cases I:j=i
   ·subst I;rw[n.no] at H;cases H
   ·have C:¬j<i:=λC=>hex ⟨j,l,m,e,C⟩
    rcases A.rd i j o l t n.o m ω e ht with y | y
    ·have:=h.down i j y H;rw[n.no] at this;cases this
    ·have:=A.tonI.lt y;omega
 let u:Array Value:=(Array.range N).map λt=>if reads ops.toList o t then a.tmps.getD t Go.undef else Go.undef
 have X:∀t,u.getD t Go.undef=if t<N/\reads ops.toList o t=true then a.tmps.getD t Go.undef else Go.undef:=by
  intro t;rw[ZaT];grind
 have R:∀t,¬t<N->a.tmps.getD t Go.undef=Go.undef:=λt ht=>by
  rw[ZaT,Zcq (by rw[h.size];exact ZdA (by assumption))];rfl
 have c:∀t,Reads ops.toList o t->u.getD t Go.undef=a.tmps.getD t Go.undef:=λt ht=>by
  grind [Au]
 have G:FR M Z.φ { tmps:=u,defers:=[] } N:=by
  refine⟨λt v z=>?_,by grind,rfl⟩;grind
 have L:∀x∈o.op.operands,(Act.eval { tmps:=u,defers:=[] } x)=a.eval x:=by
  intro x hx;cases x with
  | tmp t=>exact c t (by unfold Reads pR;rw[pS];exact ZaU _ (ZcL.2 ⟨.tmp t,by grind,rfl⟩))
  | const v=>rfl
  | global g=>rfl
  | func f=>rfl
 refine⟨{ tmps:=u,defers:=[] },G,execOp_congr o (A.rH i o n.o) L,?_⟩;unfold Region.wanted;cases U:o.guard with
 | none=>rfl
 | some p=>
  obtain⟨g,b⟩:=p;simp only;congr 1;unfold yielded;cases K:ops[g]? with
  | none=>rfl
  | some Y=>
   rw[ZcE];cases B:Y.dst with
   | none=>rfl
   | some t=>
    rw[ZcE,ZcE];have ht:Reads ops.toList o t:=by
     unfold Reads pR BQ;rw[U];refine Zbf.2 (.inl ?_);show some t=oB (gT ops.toList g) λx=>x.dst
     rw[fc,ZaL,K];exact B.symm
    have e:=c t ht;by_cases V:t<N
    ·have S:u[t]?=some (u.getD t Go.undef):=by
      grind
     have e2:a.tmps[t]?=some (a.tmps.getD t Go.undef):=by
      rw[ZaT,Za5 (by rw[h.size];exact V)];rfl
     grind
    ·have S:u[t]?=none:=Zcq (by grind);have e2:a.tmps[t]?=none:=Zcq (by rw[h.size];exact ZdA (by assumption));grind
theorem Inv.put {z:Nat} {T:World} {K:Pm D} {J:Value} (g:o6 P D cd mu ex ops.toList N ms φ0 s ops.toList.length d) (U:xa P ops.toList ms) (h:Inv ops N ms φ0 s d M0 w0 E a w k M) (n:Nx ops ms E i o Z d)
  (R:VR K Z.v J) (u:cU (SG d ms E k) M w (SG d ms (ins E i) z) K T Z.lo Z.hi) (hk:(z=k/\Z.cls≠3)\/(z=k+1/\d.es[k]?=some i))
  (L:∀(j:Nat) (q:Rc D),ins E i j->d.rs[j]?=some q->piece D q->b_ ms (fU d.es z) j->(d.hs.getD z .nil).get q.lo=none):Inv ops N ms φ0 s d M0 w0 (ins E i) (a.put o.dst J) T z K:=by
 have C:=g.o7.2 i Z n.r;have A:=u.Le (h.fresh i Z n.r n.no);have Q:∀x,o.dst=some x->x<a.tmps.size:=λx X=>by rw[h.size];exact g.dst i o x (Zam.1 n.o).1 n.o X
 refine⟨?_,λl e H=>?_,h.GF.Qd1 (u.Qp (.inl C.1) (.inl C.2) (by have:=g.o7.1;omega)),λj q p m=>?_,λj I q t f p ht m=>?_,λt ht=>?_,by rw[size_put,h.size],by rw[wZ,h.defers],L,λx y F S=>?_⟩
 ·rcases hk with⟨e,_⟩ | ⟨e,e2⟩
  ·rw[e];exact h.kle
  ·grind
 ·by_cases B:e=i
  ·subst B;rw[r7];rcases hk with⟨_,r⟩ | ⟨Y,e2⟩
   ·obtain⟨_,q,h1,O⟩:=g.esr l e H;rw[n.r] at h1;cases h1;omega
   ·have:l=k:=by
     rcases Zcs l k with h1 | h1 | h1
     ·have:=g.inc l k e e h1 H e2;omega
     ·exact h1
     ·have:=g.inc k l e e h1 e2 H;omega
    simp;omega
  ·rw[kJ B,h.ek l e H];grind
 ·have c:j≠i:=λe=>by grind [r7]
  rw[kJ c] at m;have W:=h.fresh j q p m;have V:q.hi<=Z.lo\/Z.hi<=q.lo:=by
   rcases Nat.lt_or_gt_of_ne c with h1 | h1
   ·exact .inl (g.apart j i q Z h1 p n.r)
   ·exact .inr (g.apart i j Z q h1 n.r p)
  intro b h1 O;rw[u.ext b ω];exact W b h1 O
 ·rw[wY a o.dst J t Q];by_cases c:j=i
  ·subst c;rw[n.o] at f;cases f;rw[n.r] at p;cases p;grind
  ·rw[Zaa (U.wr i j o I t n.o f (λe=>c e.symm) ht)];rw[kJ c] at m;exact(h.fr1 j I q t f p ht m).mono A
 ·rw[wY a o.dst J t Q,Zaa (ht i o n.o (r7 E i))];exact λv R=>(h.fr2 t (λj I f m=>ht j I f (Ca m)) v R).mono A
 ·by_cases G:y=i
  ·subst G;exact Ca (n.pre x F)
  ·rw[kJ G] at S;exact Ca (h.down x y F S)
end
section
variable {P:Program} {D:Data} {cd:TypeId->Option Nat} {mu:Bool} {ex:uj D.E} {ops:Array Oper} {N:Nat} {ms:List Nat} {φ0:T (AV D.E)} {s:St D.E} {d:Ds D} {M0:Pm D} {w0:World}
variable {i k j:Nat} {Z:Rc D} {E:Nat->Bool} {Y:List Nat}
theorem tm (a:iu d.rs) (e:d.rs[i]?=some Z) (c:piece D Z=false):SG d ms (ins E i) k=SG d ms E k:=by
 funext b;refine Zdo λo=>?_
 grind [iK,kJ]
theorem MV (a:iu d.rs) (h:d.rs[i]?=some Z) (g:piece D Z) (e:b_ ms (fU d.es k) i) (hz:SG d ms E k Z.lo=none) (b:Nat):
  SG d ms (ins E i) k b=if b=Z.lo then Z.pc.get Z.lo else SG d ms E k b:=by
 have f:(d.hs.getD k .nil).get Z.lo=none:=by
  cases c:(d.hs.getD k .nil).get Z.lo with
  | none=>rfl
  | some o=>rw[(iK a).2 (.inl c)] at hz;cases hz
 refine Zdo λo=>?_
 grind [iK,r7,kJ]
theorem nbs (e:Y[i]?=some k):b_ ms (fU Y (i+1)) j↔jX ms j k=false:=by
 grind [GG]
def Av {o:Oper} {rs:List (Rc D)} {hs:List (T (AO D.E))} (h:Qk P D cd mu ex ops.toList ms φ0 rs hs Y i o Z) (a:Z.cls=3):iG P o=3:=by
 rcases h.kind with⟨e,_⟩ | ⟨e,_⟩ | ⟨e,_⟩ | ⟨_,_,e,_⟩
 ·omega
 ·omega
 ·omega
 ·exact e
def Qq (a:o6 P D cd mu ex ops.toList N ms φ0 s ops.toList.length d) (c:xa P ops.toList ms) {f:Nat} (b:i<k) (g:d.es[i]?=some j) (l:d.es[k]?=some f):jX ms j f:=by
 have v:=a.inc i k j f b g l;obtain⟨h1,r,n,o⟩:=a.esr i j g;obtain⟨p,q,t,u⟩:=a.esr k f l;have e:=Zaf h1;have m:=Zaf p;have c1:=Av (a.rc j _ r e n) o;have c2:=Av (a.rc f _ q m t) u;rcases c.eff j f _ _ e m ω c1 c2 with h | h
 ·exact h
 ·have:=c.tonI.lt h;omega
theorem nbk (c:o6 P D cd mu ex ops.toList N ms φ0 s ops.toList.length d) (a:xa P ops.toList ms) (e:d.es[i]?=some k) (g:jX ms j k=false):b_ ms (fU d.es i) j:=by
 rw[GG];cases i with
 | zero=>exact .inl rfl
 | succ i=>
  right;have hk:i<d.es.length:=by grind
  have b:=Zaf hk;have e2:d.es.getD (i+1-1) 0=d.es[i]:=by grind
  rw[e2];cases f:jX ms j d.es[i] with
  | false=>rfl
  | true=>
   have:=a.tonI.trans f (Qq c a (Zbr i) b e);grind
theorem Inv.step (hD:aY D) {o:Oper} {r:Rc D} {a:Act} {w:World} {M:Pm D} {K:Act->World->Prop} {Q:Exit->Act->World->Prop} (Pd:rZ P) (hex:rY P D ex)
  (W:o6 P D cd mu ex ops.toList N ms φ0 s ops.toList.length d) (hL:xa P ops.toList ms) (hlc:∀(i:Nat) (r:Rc D),d.rs[i]?=some r->r.cls=2->∃u,(kd P D cd ms d.rs i r d.hs 0 d.es).H u)
  (h:Inv ops N ms φ0 s d M0 w0 E a w k M) (n:Nx ops ms E i o r d) (hK:∀a' w' R M',Inv ops N ms φ0 s d M0 w0 (ins E i) a' w' R M'->K a' w'):wpOp P ops Q i K a w:=by
 obtain⟨a2,hf,he,hw⟩:=h.frame W hL n;have rc:=W.rc i o r n.o n.r;have p:iu d.rs:=W.apart;have hS:=h.GF.fJ;have hnb:=n.eff h;unfold wpOp;rw[show ops[i]?=some o by rw[<-ZaL];exact n.o];simp only;rcases rc.kind with⟨c,F,Z,hhi⟩ | ⟨c,F,_,V,hhi⟩ | ⟨c,F,hcls,hhi⟩ | ⟨c,F,hcls,R,h0,h1,H,last,t,hh0,hh1,_,S,V⟩
 ·rw[Zaa (by grind [pY])];have O:piece D r=false:=by unfold piece;rw[c];rfl
  refine hK _ _ k M (h.put W hL n (by rw[Z];exact .undef) ?_ (.inl ⟨rfl,ω⟩) λj q L l f B=>?_)
  ·rw[tm p n.r O,hhi];exact .refl hS _
  ·by_cases e:j=i
   ·subst e;rw[n.r] at l;cases l;rw[O] at f;cases f
   ·rw[kJ e] at L;exact h.i1 j q L l f B
 ·rw[Zac (by grind [pY])];have J:=h.fresh i r n.r n.no;have hz:r.lo<r.hi->SG d ms E k r.lo=none:=λX=>by
   cases A:SG d ms E k r.lo with
   | none=>rfl
   | some ob=>
    obtain⟨mi,hm,_⟩:=hS.obj _ _ A;rw[J r.lo (Zah _) X] at hm;cases hm
  have U:=B_ (s:=⟨.nil,r.lo⟩) (s':=⟨r.pc,r.hi⟩) hD Pd Qn V (hS.sub (K:=(T.nil:T (AO D.E)).get) λb ob I=>by grind [T.get_nil]) hf J;refine .inl (U.wp he.symm _ _ λM' v' w' Z C=>hK _ _ k M' (h.put W hL n Z ?_ (.inl ⟨rfl,ω⟩) λj q L l f B=>?_))
  ·refine C.frame hS J (λb ob I=>by grind [T.get_nil]) λb=>?_
   have hdom:r.pc.get b≠none->b=r.lo/\r.lo<r.hi:=λI=>by
    rcases C.MN b I with h2 | h2
    ·grind [T.get_nil]
    ·grind
   show SG d ms (ins E i) k b=if (T.nil:T (AO D.E)).get b=none/\r.pc.get b=none then SG d ms E k b else r.pc.get b
   by_cases O:piece D r
   ·rw[MV p n.r O hnb (hz (kH O).2)];grind [T.get_nil,kH]
   ·have hp':piece D r=false:=by grind
    rw[tm p n.r hp'];cases A:r.pc.get b with
    | none=>rw[Zac ⟨T.get_nil _,rfl⟩]
    | some ob=>
     have h5:=(hdom (by grind)).2;exact absurd (show piece D r=true by unfold piece;rw[c,cw.2 h5];rfl) O
  ·by_cases e:j=i
   ·subst e;rw[n.r] at l;cases l;cases A:(d.hs.getD k .nil).get r.lo with
    | none=>rfl
    | some ob=>have:=hz (kH f).2;rw[(iK p).2 (.inl A)] at this;cases this
   ·rw[kJ e] at L;exact h.i1 j q L l f B
 ·rw[Zac (by grind [pY])];have O:piece D r=false:=by unfold piece;rw[c];rfl
  have hkl:k<d.hs.length:=by rw[W.qX];have:=h.kle;omega
  have hh:=Zaf hkl;have hms:oR ms i (fU d.es k) (d.es.drop k):=by
   unfold oR;rw[hnb];cases hdr:d.es.drop k with
   | nil=>rfl
   | cons e es=>
    have t:d.es[k]?=some e:=by
     have:=ZbX (xs:=d.es) (i:=k) (j:=0);grind
    show Bool.not (jX ms e i)
    cases l:jX ms e i with
    | false=>rfl
    | true=>
     have:=(h.ek k e t).1 (n.pre e l);omega
  have QgV:∃u,(BV P D cd ms d.rs i (fU d.es k) r d.hs[k]).H u:=by
   obtain⟨u,hu⟩:=hlc i r n.r c;have:=r6 hu k _ hh h.kle;cases k with
   | zero=>exact this hms
   | succ k=>exact this hms
  obtain⟨u,hu⟩:=QgV;obtain⟨v,hld,hsame⟩:=ai.1 hu;rw[rc.op] at hld;obtain⟨H,S,V⟩:=Qo hcls hld;have z:=kI S p;have m:∀b ob,H.get b=some ob->SG d ms E k b=some ob:=by
   intro b ob I;rw[z b] at I;cases A:uY (λj=>Bool.and (jX ms j i) (b_ ms (fU d.es k) j)) d.rs 0 b with
   | none=>rw[A] at I;exact(iK p).2 (.inl (by grind))
   | some ob2=>
    rw[A] at I;cases I;obtain⟨j,q,g1,g2,g3,g4,g5⟩:=(jC p).1 A;rw[Za6] at g3;obtain⟨g6,g7⟩:=l8 g3;have hE:=n.pre j g6;refine(iK p).2 (.inr ⟨?_,j,q,g1,g2,hE,g7,g4,g5⟩);rw[<-g4];exact h.i1 j q hE g1 g2 g7
  have U:=(B_ (s:=⟨H,0⟩) (s':=⟨H,0⟩) hD Pd Qn V (hS.sub m) hf (λb _ I=>ω)).same λM' v' Z=>Qm hsame Z
  refine .inl (U.wp he.symm _ _ λM' v' w' Z C=>hK _ _ k M' (h.put W hL n Z ?_ (.inl ⟨rfl,ω⟩) λj q L l f B=>?_))
  ·have:=C.frame hS (λb _ I=>ω) m (H':=SG d ms (ins E i) k) λb=>by
    rw[tm p n.r O];show _=if H.get b=none/\H.get b=none then _ else H.get b
    cases A:H.get b with
    | none=>rw[Zac ⟨rfl,rfl⟩]
    | some ob=>rw[Zaa (by simp),m b ob A]
   exact this.Qp (.inr rfl) (.inr rfl) rc.le
  ·by_cases e:j=i
   ·subst e;rw[n.r] at l;cases l;rw[O] at f;cases f
   ·rw[kJ e] at L;exact h.i1 j q L l f B
 ·rw[Zac (by grind [pY])];have hkk:R=k:=by
   have e1:¬R<k:=λX=>by
    have:=(h.ek R i t).2 X;rw[n.no] at this;cases this
   by_cases e2:k<R
   ·have hk:k<d.es.length:=by grind
    have e3:=Zaf hk;have:=(h.ek k _ e3).1 (n.pre _ (Qq W hL e2 e3 t));omega
   ·omega
  subst hkk;have O:piece D r=false:=by unfold piece;rw[c];rfl
  have J:=h.fresh i r n.r n.no;have hg0:=Kh hh0;have hg1:=Kh hh1;have hAt:iu (d.rs.take i):=λx y q q2 hxy l Y=>by
   rw[Za7] at l Y;split at l
   ·split at Y
    ·exact p x y q q2 hxy l Y
    ·cases Y
   ·cases l
  have z:=kI S hAt;have G:∀b ob,H.get b=some ob->(h0.get b=some ob/\True)\/∃(j:Nat) (q:Rc D),d.rs[j]?=some q/\piece D q/\jX ms j i/\b_ ms (fU d.es R) j/\q.lo=b/\q.pc.get b=some ob:=by
   grind [jC]
  have m:∀b ob,H.get b=some ob->SG d ms E R b=some ob:=by
   intro b ob I;rcases G b ob I with⟨I,_⟩ | ⟨j,q,g1,g2,g3,g4,g5,g6⟩
   ·grind [iK]
   ·have hE:=n.pre j g3;refine(iK p).2 (.inr ⟨?_,j,q,g1,g2,hE,g4,g5,g6⟩);rw[<-g5];exact h.i1 j q hE g1 g2 g4
  have hnone:∀(j:Nat) (q:Rc D),d.rs[j]?=some q->piece D q->E j->jX ms j i=false->H.get q.lo=none:=by
   intro j q l f hE L;cases A:H.get q.lo with
   | none=>rfl
   | some ob=>
    exfalso;rcases G _ _ A with⟨I,_⟩ | ⟨j2,q2,g1,g2,g3,g4,g5,g6⟩
    ·have:=h.i1 j q hE l f (nbk W hL t L);grind
    ·have:=p.uniq g1 l g2 f g5;grind
  have U:=B_ (s:=⟨H,r.lo⟩) (s':=⟨h1,r.hi⟩) hD Pd hex V (hS.sub m) hf J;refine .inl (U.wp he.symm _ _ λM' v' w' Z C=>hK _ _ (R+1) M' (h.put W hL n Z ?_ (.inr ⟨rfl,t⟩) λj q L l f B=>?_))
  ·refine C.frame hS J m λb=>?_
   show SG d ms (ins E i) (R+1) b=if H.get b=none/\h1.get b=none then SG d ms E R b else h1.get b
   have hins:∀(j:Nat) (q:Rc D),d.rs[j]?=some q->piece D q->ins E i j->E j:=λj q l f L=>by
    by_cases e:j=i
    ·subst e;rw[n.r] at l;cases l;rw[O] at f;cases f
    ·grind [kJ]
   cases A:h1.get b with
   | some ob=>rw[Zaa (by simp)];exact(iK p).2 (.inl (by grind))
   | none=>
    cases hgK:H.get b with
    | some ob=>
     rw[Zaa (by simp)];cases hgS:SG d ms (ins E i) (R+1) b with
     | none=>rfl
     | some ob2=>
      grind [iK,nbs]
    | none=>
     rw[Zac ⟨rfl,rfl⟩];have hz:=z b;rw[hgK] at hz;have hz1:uY (λj=>Bool.and (jX ms j i) (b_ ms last j)) (d.rs.take i) 0 b=none/\h0.get b=none:=by
      grind
     refine Zdo λob=>?_
     rw[iK p,iK p,hg0,hg1,A,hz1.2];constructor
     ·grind [nbk,nbs]
     ·rintro(g | ⟨_,j,q,g1,g2,g3,g4,g5,g6⟩)
      ·cases g
      ·refine .inr ⟨rfl,j,q,g1,g2,Ca g3,(nbs t).2 ?_,g5,g6⟩;cases hm:jX ms j i with
       | false=>rfl
       | true=>
        have X:=hL.tonI.lt hm;grind [jC]
  ·have e:j≠i:=λe=>by subst e;rw[n.r] at l;cases l;rw[O] at f;cases f
   rw[kJ e] at L;have hm:=(nbs t).1 B;rw[hg1];cases A:h1.get q.lo with
   | none=>rfl
   | some ob=>
    exfalso;rcases C.MN q.lo (show h1.get q.lo≠none by grind) with g | g
    ·grind
    ·have g1:r.lo<=q.lo:=g.1;have g2:q.lo<r.hi:=g.2;have g3:=(kH f).2;rcases Nat.lt_or_gt_of_ne e with g4 | g4
     ·have:=p j i q r g4 l n.r;omega
     ·have:=p i j r q g4 n.r l;omega
end
section
variable {P:Program} {D:Data} {cd:TypeId->Option Nat} {mu:Bool} {ex:uj D.E} {ops:Array Oper} {N:Nat} {ms:List Nat} {φ0:T (AV D.E)} {s:St D.E} {d:Ds D} {M0:Pm D} {w0:World}
variable {l:Array Bool} {i:Nat}
theorem MW (d:xa P ops.toList ms) (di:l.size=ops.size) (h:Region.ready .any ops l=[]):∀j,j<ops.size->l.getD j false:=by
 intro j
 induction j using Nat.strongRecOn with
 | _ j k=>
  intro g;cases c:l.getD j false with
  | true=>rfl
  | false=>
   have b:j<l.size:=ω;have:j∈Region.ready .any ops l:=mem_ready.2 ⟨by
    rw[ZaT,Za5 b] at c ⊢;exact c,ops[j],Za5 g,λe a f=>by
     have i:ops.toList[j]?=some ops[j]:=by grind
     obtain⟨h1,_,_⟩:=d.QdZ j _ e i (by grind) f;exact k e.on h1 ω⟩
   grind
theorem count_set (h:i<l.size) (a:l.getD i true=false):(l.setIfInBounds i true).toList.count false+1=l.toList.count false:=by
 rw[Array.toList_setIfInBounds];have h1:l.toList[i]'(by assumption)=false:=by
  simp_all
 grind
theorem GH (h:l.toList.count false=0):∀j,j<l.size->l.getD j false:=by
 intro j a;have h1:l.toList[j]'(by assumption)≠false:=λe=>by
  grind
 simp_all
theorem Inv.done (c:o6 P D cd mu ex ops.toList N ms φ0 s ops.toList.length d) {r:T (AO D.E)} (o:(kC D (b_ ms d.last) d.rs 0 d.h).H r) {E:Nat->Bool} {a:Act} {w:World} {M:Pm D} (h:Inv ops N ms φ0 s d M0 w0 E a w i M) (k:∀j,j<ops.size->E j):
  cU s.h.get M0 w0 r.get M w s.nx d.nx/\FR M d.φ a N:=by
 have n:iu d.rs:=c.apart;have hk:i=d.es.length:=by
  have:=h.kle;by_cases z:i<d.es.length
  ·have A:=Zaf z;have u:=(c.esr i _ A).1;have:=(h.ek i _ A).1 (k _ (by assumption));omega
  ·omega
 subst hk;have l:d.hs.getD d.es.length .nil=d.h:=Kh c.a8;have B:∀(j:Nat) (q:Rc D),d.rs[j]?=some q->E j:=λj q C=>k j (by
  have:=(Zam.1 C).1;rw[c.len] at this;simpa using this)
 refine⟨?_,λt v p=>?_,h.size,h.defers⟩
 ·have:r.get=SG d ms E d.es.length:=by
   funext b;rw[kI o n b];refine Zdo λob=>?_
   rw[iK n,l];cases I:uY (b_ ms d.last) d.rs 0 b with
   | some J=>
    obtain⟨j,q,g1,g2,g3,g4,g5⟩:=(jC n).1 I;rw[Za6,c.last] at g3;have hz:=h.i1 j q (B j q g1) g1 g2 g3;rw[l,g4] at hz;constructor
    ·grind
    ·rintro(g | ⟨_,F,G,k1,k2,k3,k4,k5,k6⟩)
     ·grind
     ·have:=n.uniq k1 g1 k2 g2 (k5.trans g4.symm);grind
   | none=>
    constructor
    ·grind
    ·rintro(g | ⟨_,F,G,k1,k2,k3,k4,k5,k6⟩)
     ·exact g
     ·have:uY (b_ ms d.last) d.rs 0 b=some ob:=(jC n).2 ⟨F,G,k1,k2,by rw[Za6,c.last];exact k4,k5,k6⟩;grind
  rw[this];exact h.GF
 ·by_cases hex:∃(j:Nat) (f:Oper),ops.toList[j]?=some f/\f.dst=some t
  ·obtain⟨j,f,h1,u⟩:=hex;have y:j<d.rs.length:=by rw[c.len];exact(Zam.1 h1).1
   have x:=Zaf y;rw[c.phi.1 j _ f t x h1 u] at p;cases p;exact h.fr1 j f _ t h1 x u (B j _ x)
  ·rw[c.phi.2 t λj q f C m e=>hex ⟨j,f,m,e⟩] at p;exact h.fr2 t (λj f m _ e=>hex ⟨j,f,m,e⟩) v p
theorem Qd2 (K:aY D) {Q:Exit->Act->World->Prop} {t:T (AO D.E)} (z:rZ P) (hex:rY P D ex) (m:o6 P D cd mu ex ops.toList N ms φ0 s ops.toList.length d) (v:xa P ops.toList ms) (y:∀(i:Nat) (r:Rc D),d.rs[i]?=some r->r.cls=2->∃u,(kd P D cd ms d.rs i r d.hs 0 d.es).H u)
  (f:(kC D (b_ ms d.last) d.rs 0 d.h).H t) (L:∀p q C,cU s.h.get M0 w0 t.get p C s.nx d.nx->FR p d.φ q N->Q .normal q C):
  ∀(fuel:Nat) (b:Array Bool) (a:Act) (w:World) (k:Nat) (M:Pm D),b.size=ops.size->b.toList.count false<=fuel->Inv ops N ms φ0 s d M0 w0 (λj=>b.getD j false) a w k M->wpAny P .any ops Q fuel b a w:=by
 intro fuel
 induction fuel with
 | zero=>
  intro b a w k M di F h;have g:=GH (Zda.1 F);have c:=h.done m f (λj x=>g j ω);refine⟨?_,L M a w c.1 c.2⟩;refine List.eq_nil_iff_forall_not_mem.2 λj x=>?_
  grind [mem_ready]
 | succ fuel U=>
  intro b a w k M di F h;refine⟨λR=>?_,λi hi=>?_⟩
  ·have c:=h.done m f (MW v di R);grind
  ·obtain⟨h1,o,I,J⟩:=mem_ready.1 hi;have l:i<ops.size:=(ZbU.1 I).1;have O:i<b.size:=ω;have G:ops.toList[i]?=some o:=by grind
   have B:i<d.rs.length:=by rw[m.len];simpa using l
   have A:b.getD i false=false:=by
    grind
   have n:Nx ops ms (λj=>b.getD j false) i o d.rs[i] d:=⟨G,Zaf B,A,λj x=>by
    obtain⟨W,e,g1,g2,g3,_,g4⟩:=v.back j i x;rw[G] at g1;cases g1;have g5:=J e (by grind) g3;rcases g4 with rfl | g4
    ·exact g5
    ·exact h.down j e.on g4 g5⟩
   refine h.step K z hex m v y n λq C V p t=>?_
   have S:ins (λj=>b.getD j false) i=λj=>(b.setIfInBounds i true).getD j false:=by
    funext j;unfold ins;by_cases e:j=i
    ·simp_all
    ·rw[getD_set_ne false (Ne.symm e)];simp[e]
   grind [count_set]
theorem DR (R:aY D) {id:Nat} {m:St D.E} {φ n:T (AV D.E)} (g:P.follows .mixedOrders) (F:rZ P) (hex:rY P D ex) (h:(Dv P D cd mu ex ops.toList N s φ).H (m,n)):s.nx<=m.nx/\
  ∀(M:Pm D) (a:Act) (w:World),ee M s.h.get w->FR M φ a N->bV M s.nx m.nx->∀Q:Exit->Act->World->Prop,
   (∀p q v,cU s.h.get M w m.h.get p v s.nx m.nx->FR p n q N->Q .normal q v)->(Code.region id ops true).wp P Q a w:=by
 obtain⟨ms,k,h1⟩:=ai.1 h;obtain⟨d,y,K⟩:=ai.1 h1;obtain⟨u,x,L⟩:=ai.1 K;obtain⟨W,f,O⟩:=ai.1 L;cases aq.1 O;rw[bD] at k;have I:=zv k;have c:=xb (pre:=[]) I rfl (o6.start s φ) y;have C:∀(i:Nat) (r:Rc D),d.rs[i]?=some r->r.cls=2->∃u,(kd P D cd ms d.rs i r d.hs 0 d.es).H u:=λi r G V=>by
  have:=uw x i r G V;grind
 refine⟨c.o7.1,λM a w J z B Q U=>?_⟩;have S:(λj=>(Array.replicate ops.size false).getD j false)=λ_=>false:=by
  funext j;rw[ZaT,Array.getElem?_replicate];split<;>rfl
 refine wp_region_any g (Qd2 (M0:=M) (w0:=w.drew) R F hex c I C f (λp q v hs A=>U p q v ((cU.vP J s.nx).trans hs) A) _ _ _ _ 0 M (by simp) (by simp) ?_);rw[S];have h0:d.hs.getD 0 .nil=s.h:=Kh c.h0;refine⟨Zaj _,λl e _=>⟨λh=>(by cases h),λh=>ω⟩,?_,λi r G _ b X Y=>?_,λi o r t _ _ _ h=>(by cases h),λt _=>z.at_ t,z.size,z.defers,λj r h=>(by cases h),λi j _ h=>(by cases h)⟩
 ·have:SG d ms (λ_=>false) 0=s.h.get:=by
   funext b;refine Zdo λob=>?_
   rw[iK c.apart,h0];grind
  rw[this];exact(cU.refl (cU.vP J s.nx).fJ s.nx).Qp (.inr rfl) (.inr rfl) c.o7.1
 ·have:=c.o7.2 i r G;exact B b ω (by grind)
end
section
variable {P:Program} {D:Data} {M M':Pm D} {w w':World} {H:Hp D} {s s':St D.E} {lo:Nat}
variable {b a:Nat} {Z:Ren} {c:MI}
def TF (M:Pm D) (n:Nat):Prop:=∀b,n<=b->M.pl b=none
def TF.fresh (h:TF M b):bV M b a:=λlo h1 _=>h lo h1
def TF.GF {hi:Hp D} (h:TF M b) (hs:cU H M w hi M' w' b a):TF M' a:=λlo c=>by
 have:=hs.le;rw[hs.ext lo ω];exact h lo ω
theorem bV.next {c:Hp D} {lo hi:Nat} (h:bV M lo hi) (hs:cU H M w c M' w' lo a):bV M' a hi:=λb h1 d=>by
 have:=hs.le;rw[hs.ext b ω];exact h b ω d
def bV.fst {hi:Nat} (h:bV M b hi) (d:a<=hi):bV M b a:=λlo h1 c=>h lo h1 ω
def TF.lt (h:TF M b) (n:M.pl a=some c):a<b:=by
 refine Zdy λhle=>?_
 rw[h a hle] at n;cases n
noncomputable def rl (r:Ren) (M:Pm D):Pm D:=⟨λt=>(d_ r t).bind M.pl,M.sg⟩
def Ext (r a:Ren):Prop:=∀t b,d_ r t=some b->d_ a t=some b
def Inj (r:Ren):Prop:=∀t a b,d_ r t=some b->d_ r a=some b->t=a
theorem xd (h:d_ Z b=some a) (t:M.pl a=some c):(rl Z M).pl b=some c:=by
 show(d_ Z b).bind M.pl=some c
 grind
theorem f_ (h:(rl Z M).pl b=some c):∃t,d_ Z b=some t/\M.pl t=some c:=by
 have a:(d_ Z b).bind M.pl=some c:=h;cases d:d_ Z b with
 | none=>rw[d] at a;cases a
 | some t=>rw[d] at a;exact⟨t,rfl,a⟩
def Ki {c:Ren} (a:Le M M') (e:Ext Z c):Le (rl Z M) (rl c M'):=⟨λt f h=>by
 obtain⟨b,h1,d⟩:=f_ h;exact xd (e _ _ h1) (a.1 _ _ d),a.2⟩
theorem Ext.refl (r:Ren):Ext r r:=λ_ _ h=>h
def Ext.trans {c a:Ren} (h:Ext Z c) (k:Ext c a):Ext Z a:=λt b e=>k t b (h t b e)
theorem jf (t b:Nat) (r:Ren) (x:Nat):d_ ((t,b)::r) x=if t=x then some b else d_ r x:=by
 grind [d_,rM]
theorem DS (h:d_ Z b=some a):(b,a)∈Z:=by
 induction Z with
 | nil=>cases(show none=some a from h)
 | cons p Z t=>
  grind [jf]
theorem mA (h:zp Z b=false):∀t,d_ Z t≠some b:=λt e=>by
 have:zp Z b:=w_.2 ⟨(t,b),DS e,aN.2 rfl⟩;grind
theorem fh {α:Type} (t:Nat) (a:α) (l:List (Nat×α)) (x:Nat):cA ((t,a)::l) x=if t=x then some a else cA l x:=by
 grind [cA,rM]
theorem o9 {α:Type} {l:List (Nat×α)} {a:α} (h:cA l b=some a):(b,a)∈l:=by
 induction l with
 | nil=>cases(show none=some a from h)
 | cons p l t=>
  grind [fh]
structure Mv (m m':Mt D.E):Prop where
 inj:Inj m.r->Inj m'.r
 ext:Ext m.r m'.r
 Ya:∀t b,d_ m.r t=some b->m'.s.h.get b=m.s.h.get b
 td:∀p∈m.todo,p∈m'.todo
 new:∀t b,d_ m'.r t=some b->d_ m.r t=some b\/(t,b)∈m'.todo
 le:m.s.nx<=m'.s.nx
theorem Mv.refl (m:Mt D.E):Mv m m:=⟨id,.refl _,λ_ _ _=>rfl,λ_ h=>h,λ_ _ h=>.inl h,Zah _⟩
theorem Mv.trans {m d a:Mt D.E} (h:Mv m d) (k:Mv d a):Mv m a:=
 ⟨λi=>k.inj (h.inj i),h.ext.trans k.ext,λt b e=>(k.Ya t b (h.ext t b e)).trans (h.Ya t b e),λp f=>k.td p (h.td p f),λt b e=>by
  rcases k.new t b e with h1 | h1
  ·rcases h.new t b h1 with c | c
   ·grind
   ·exact .inr (k.td _ c)
  ·exact .inr h1,Zav h.le k.le⟩
abbrev Sm (m a:Mt D.E) (M:Pm D) (w:World) (b:Pm D):Prop:=cU m.s.h.get M w a.s.h.get b w m.s.nx a.s.nx
variable {b:Nat} {y:AO D.E} {m a:Mt D.E}
theorem Cb {t:Nat} (h:(pair D m b t).H a):Mv m a/\a.s=m.s/\d_ a.r b=some t:=by
 unfold pair at h;cases g:d_ m.r b with
 | some j=>
  rw[g] at h;obtain⟨h1,d⟩:=bA.1 (show(bB (Nat.beq j t) (.ret m)).H a from h);cases aq.1 d;exact⟨.refl _,rfl,by simp_all⟩
 | none=>
  rw[g] at h;rcases gY.1 (show(bE (zp m.r t) .fail (.ret ⟨m.s,(b,t)::m.r,(b,t)::m.todo⟩)).H a from h) with⟨_,d⟩ | ⟨h1,d⟩
  ·exact d.elim
  ·cases aq.1 d;have k:=mA h1;refine⟨⟨λhi x i c e f=>?_,λx c e=>?_,λ_ _ _=>rfl,λp l=>ZaU _ l,λx c e=>?_,Zah _⟩,rfl,by grind [jf]⟩
   ·rw[jf] at e f;by_cases q:b=x<;>by_cases n:b=i
    ·omega
    ·grind
    ·grind
    ·rw[Zaa q] at e;rw[Zaa n] at f;exact hi x i c e f
   ·grind [jf]
   ·grind [jf]
theorem cU.void {o1:AO D.E} {i:MI} (f:ee M H w) (B:H b=some y) (C:M.pl b=some i) (F:i.real=false) (u:OR M o1 i w) (lo:Nat):cU H M w (ja H b (some o1)) M w lo lo:=by
 have a:∀c o,c≠b->ja H b (some o1) c=some o->H c=some o:=λc o e h=>by grind [ja]
 refine⟨⟨λc o h=>?_,λc l o x m v h p e n r A s=>?_,f.gR,λc o m h hw e d j t=>?_,λc k xs e m h g d=>?_,⟨f.mh.1,λc o m h hw e d=>?_⟩⟩,λ_ _=>rfl,λ_ _ _ h=>h,λ_ _ h=>.inl h,Zah _,λ_ _ _=>rfl,λc o m h e d=>?_,λc h=>?_,rfl,rfl,rfl,Zah _⟩
 ·by_cases q:c=b
  ·grind [ja]
  ·exact f.obj c o (a c o q h)
 ·have q:c≠b:=λq=>by grind
  have z:l≠b:=λq=>by grind
  exact f.inj c l o x m v (a _ _ q h) (a _ _ z p) e n r A s
 ·have q:c≠b:=λq=>by grind
  exact f.sep c o m (a _ _ q h) hw e d j t
 ·have q:c≠b:=λq=>by grind
  exact f.J6 c k xs e m (a _ _ q h) g d
 ·have q:c≠b:=λq=>by grind
  exact f.mh.2 c o m (a _ _ q h) hw e d
 ·grind
 ·by_cases q:c=b
  ·grind
  ·obtain⟨o,u⟩:=Zbs.1 h;grind
theorem cU.lock {o1:AO D.E} {a:MI} {cs:List (AV D.E)} (s:ee M H w) (t:H b=some y) (hw:y.wr) (f:∀j,y.ti a j) (n:M.pl b=some a) (p:a.real) (B:o1.wr=false)
  (A:∀v∈cs,mq v) (x:∀(i:Nat) (v:AV D.E),cs[i]?=some v->∃m,w.cell? ⟨a.bY,a.sh+i,none⟩=some m/\VR M v m)
  (z:∀r,sx.Le M r->OR r o1 a w) (q:∀c xs e,o1=.arr c xs e true->cz (⟨M.pl,df M.sg a.bY a.sh cs⟩:Pm D) a.bY a.sh c xs) (lo:Nat):
  cU H M w (ja H b (some o1)) ⟨M.pl,df M.sg a.bY a.sh cs⟩ w lo lo:=by
 have d:∀j,M.sg a.bY j=none:=λj=>s.sep b y a t hw n p j (f j)
 have k:∀b o v,M.sg b o=some v->df M.sg a.bY a.sh cs b o=some v:=kG λo _ _=>d o
 have hle:sx.Le M ⟨M.pl,df M.sg a.bY a.sh cs⟩:=⟨λ_ _ h=>h,k⟩;have:=cU.upon (M1:=⟨M.pl,df M.sg a.bY a.sh cs⟩) (sg1:=df M.sg a.bY a.sh cs) (b0:=b) (b1:=b) (o1:=o1) (B3:=a) (lo:=lo) (hi:=lo) (w':=w) s t hw n p p rfl (by
   congr 1;funext c;by_cases e:c=b
   ·rw[Zac e,e];exact n
   ·rw[Zaa e]) (.inl ⟨rfl,rfl,rfl⟩) k (λb o h=>mw h) rfl (λ_ _=>rfl) rfl rfl rfl (z _ hle)
  (λo v g=>by
   unfold df at g;split at g
   ·rename_i l
    obtain⟨m,h1,u⟩:=x _ v g;refine⟨A v (ZaJ g),m,?_,u.mono hle⟩;grind
   ·rw[d] at g;cases g) (λh=>by grind) q
 have e2:(λc=>if c=b then some o1 else if c=b then none else H c)=ja H b (some o1):=by
  grind [ja]
 grind
theorem Qr (h:H b=some y):ja H b (some y)=H:=by
 grind [ja]
theorem kK (A:aY D) {x:Ar D.E} (h:(rL D m b).H (x,a)):Mv m a/\a.r=m.r/\∀M w,ee M m.s.h.get w->∃n,Sm m a M w n/\n.pl=M.pl/\
  ∃d,M.pl b=some d/\d.len=x.xs.length/\d.je=D.size x.c/\(d.real->cz n d.bY d.sh x.c x.xs):=by
 unfold rL at h;rcases gY.1 h with⟨_,h0⟩ | ⟨h0,h1⟩
 ·exact h0.elim
 obtain⟨F,K,I⟩:=ai.1 h1;obtain⟨z,hs,q⟩:=ai.1 I;have q:=aq.1 q;simp only[Zbx] at q;obtain⟨rfl,rfl⟩:=q;have j:=jt K;obtain⟨q1,B⟩:=ue hs;have L:=mA h0;refine⟨⟨id,.refl _,λt c e=>?_,λ_ h=>h,λ_ _ h=>.inl h,Zd1 B.symm⟩,rfl,λM w o=>?_⟩
 ·show z.h.get c=m.s.h.get c
  rw[q1];grind [ja]
 ·obtain⟨d,k,f,g,p⟩:=o.obj b _ j;obtain⟨c,xs,e,ro⟩:=F;simp only at j q1 f g p ⊢;unfold Sm;show ∃n,cU m.s.h.get M w z.h.get n w m.s.nx z.nx/\_
  rw[q1,B];cases ro with
  | true=>
   refine⟨M,by rw[Qr j];exact .refl o _,rfl,d,k,f,g,λl=>o.J6 b c xs e d j k l⟩
  | false=>
   by_cases l:d.real
   ·obtain⟨C,G,k1,k2,k3,k4,k5⟩:=p l;refine⟨_,cU.lock (o1:=.arr c xs e true) (cs:=aV c xs) o j rfl (λ_=>trivial) k l rfl (λv u=>(ef A u).2) (λi v u=>?_) (λP J=>⟨f,g,λ_=>⟨C,G,k1,k2,k3,λi v u=>let ⟨N,x,b⟩:=k4 i v u;⟨N,x,b.mono J⟩,λh=>by cases h⟩⟩) (λc2 O e2 Q=>?_) _,rfl,d,k,f,g,λ_=>cz.add A⟩
    ·grind [World.cell?]
    ·grind [cz.add]
   ·have y:d.real=false:=by grind
    exact⟨M,cU.void (o1:=.arr c xs e true) o j k y ⟨f,g,λh=>absurd h l⟩ _,rfl,d,k,f,g,λh=>absurd h l⟩
end
section
variable {P:Program} {D:Data} {M M':Pm D} {w w':World} {H:Hp D} {s s':St D.E} {lo:Nat} {m m':Mt D.E}
variable {b o c:Nat} {a Y:AV D.E} {Z:Int} {X:AO D.E} {W:St D.E} {V:List (Nat×AO D.E)}
variable {O:Nat} {U:List (D.E c)}
def zj (m b:Mt D.E) (a t:AV D.E):Prop:=Mv m b/\∀M w,ee M m.s.h.get w->bV M m.s.nx b.s.nx->∃c,Sm m b M w c/\∀v,VR M a v->VR (rl b.r c) t v
theorem cz.take (h:cz M b o c U) (n:Nat):cz M b o c (U.take n):=λi hi j v e=>by
 have a:i<U.length:=by grind
 rw[ZcP] at e;exact h i a j v e
theorem cz.drop (h:cz M b o c U) (n:Nat):cz M b (o+n*D.size c) c (U.drop n):=λi hi j v e=>by
 have a:n+i<U.length:=by grind
 rw[Zdm] at e;have:=h (n+i) a j v e;grind
theorem lS {r:Ren} {v:Value} (h:VR M a v) (t:mq a):VR (rl r M) a v:=h.pure t λ_ _ _ e=>e
def zj.same (c:mq Y) (h:∀M v,VR M a v->VR M Y v) (m:Mt D.E):zj m m a Y:=
 ⟨.refl m,λM e b _=>⟨M,.refl b _,λv d=>lS (h M v d) c⟩⟩
theorem tn {c:Nat} {xs:List (D.E c)} {b k:Nat} {v:Value} {a:MI} (p:M'.pl=M.pl) (i:M.pl b=some a) (hl:a.len=xs.length) (hz:a.je=D.size c) (hs:a.real->cz M' a.bY a.sh c xs):
  (VR M (.own b k Z) v->VR M' (.list c xs) v)/\(VR M (.pre b k Z) v->VR M' (.list c (dE xs Z)) v)/\(∀o,VR M (.part b k o Z) v->VR M' (.list c (rK xs o Z)) v):=by
 refine⟨λh=>?_,λh=>?_,λo h=>?_⟩
 ·cases h with
  | own h hk g f d j ht=>
   rw[i] at h;cases h;rw[hl] at d j ⊢;exact .list (hs g) d j
  | kD h hk g f h0=>
   rw[i] at h;cases h;have:xs=[]:=Zap ω;subst this;exact .ed
 ·cases h with
  | pre h hk g f d hle j ht=>
   rename_i l cap m
   rw[i] at h;cases h;subst f;have e:(dE xs (l:Int)).length=l:=by grind [dE]
   have:=VR.list (M:=M') (c:=c) (xs:=dE xs (l:Int)) (b:=a.bY) (o:=a.sh) (cap:=cap) ((hs g).take _) ω ω;grind
  | oV h hk g f h0=>
   rw[i] at h;cases h;have:xs=[]:=Zap ω;subst this;have e:dE ([]:List (D.E c)) Z=[]:=by simp[dE]
   rw[e];exact .ed
 ·cases h with
  | part h hk g f q hle d j=>
   rename_i l cap m
   rw[i] at h;cases h;subst f;have e:(rK xs o (l:Int)).length=l:=by simp[rK];omega
   have:=VR.list (M:=M') (c:=c) (xs:=rK xs o (l:Int)) (b:=a.bY) (o:=a.sh+o.toNat*D.size c) (cap:=cap) (((hs g).drop _).take _) ω ω;grind
  | jz h hk f q=>
   subst f;have e:rK xs o 0=[]:=by rfl
   rw[e];exact .ed
def Qt (t:aY D) {y:List (D.E b)} (h:(PN D m a b y).H m'):zj m m' a (.list b y):=by
 cases a<;>simp only[PN] at h<;>(try exact h.elim)
 case list r xs=>
  obtain⟨s,h1,g⟩:=ai.1 h;obtain⟨rfl,e⟩:=cQ h1;cases e;obtain⟨rfl,d⟩:=cK.1 g;cases aq.1 d;exact .same rfl (λM v f=>f) m
 case grow r xs c=>
  obtain⟨s,h1,g⟩:=ai.1 h;obtain⟨rfl,e⟩:=cQ h1;cases e;obtain⟨rfl,d⟩:=cK.1 g;cases aq.1 d;refine .same rfl (λM v f=>?_) m;cases f with
  | grow h B hl hz hs A z ht=>exact .list hs A z
  | jZ h B=>exact .ed
 case dF=>
  obtain⟨rfl,d⟩:=cK.1 h;cases aq.1 d;refine .same rfl (λM v f=>?_) m;cases f;exact .ed
 case own c k n=>
  obtain⟨a,m1,h1,g⟩:=bq.1 h;obtain⟨s,d,j⟩:=ai.1 g;obtain⟨r,xs,e,ro⟩:=a;obtain⟨rfl,e⟩:=cQ d;cases e;obtain⟨rfl,l⟩:=cK.1 j;cases aq.1 l;obtain⟨q1,x,q⟩:=kK t h1;refine⟨q1,λM w p _=>?_⟩;obtain⟨i,g1,g2,u,g3,g4,g5,g6⟩:=q M w p;exact⟨i,g1,λv f=>lS ((tn g2 g3 g4 g5 g6).1 f) rfl⟩
 case pre c k n=>
  obtain⟨a,m1,h1,g⟩:=bq.1 h;obtain⟨s,d,j⟩:=ai.1 g;obtain⟨r,xs,e,ro⟩:=a;obtain⟨rfl,e⟩:=cQ d;cases e;obtain⟨rfl,l⟩:=cK.1 j;cases aq.1 l;obtain⟨q1,x,q⟩:=kK t h1;refine⟨q1,λM w p _=>?_⟩;obtain⟨i,g1,g2,u,g3,g4,g5,g6⟩:=q M w p;exact⟨i,g1,λv f=>lS ((tn g2 g3 g4 g5 g6).2.1 f) rfl⟩
 case part c k o n=>
  obtain⟨a,m1,h1,g⟩:=bq.1 h;obtain⟨s,d,j⟩:=ai.1 g;obtain⟨r,xs,e,ro⟩:=a;obtain⟨rfl,e⟩:=cQ d;cases e;obtain⟨rfl,l⟩:=cK.1 j;cases aq.1 l;obtain⟨q1,x,q⟩:=kK t h1;refine⟨q1,λM w p _=>?_⟩;obtain⟨i,g1,g2,u,g3,g4,g5,g6⟩:=q M w p;exact⟨i,g1,λv f=>lS ((tn g2 g3 g4 g5 g6).2.2 o f) rfl⟩
theorem QgW (d:(m.s.new X).H (b,W)) (h:zp m.r b=false):Mv m ⟨W,m.r,m.todo⟩:=by
 obtain⟨rfl,g,f⟩:=qL d;refine⟨id,.refl _,λt c e=>?_,λ_ h=>h,λ_ _ h=>.inl h,by grind⟩;show W.h.get c=m.s.h.get c
 rw[f];grind [mA,ja]
theorem DT {o:AO D.E} {mi:MI} (k:(m.s.new o).H (O,W)) (h:(JW D ⟨W,m.r,m.todo⟩ b O).H m') (g:∀c xs e,o≠.arr c xs e true) (z:mi.real=false) (u:∀M w,OR M o mi w)
  (x:∀M j,j.pl O=some mi->d_ m'.r b=some O->∀v,VR M a v->VR (rl m'.r j) Y v):zj m m' a Y:=by
 rcases gY.1 h with⟨_,h0⟩ | ⟨h0,h⟩
 ·exact h0.elim
 have h1:=QgW k h0;obtain⟨p1,p2,p3⟩:=Cb h;obtain⟨rfl,l,y⟩:=qL k;refine⟨h1.trans p1,λM w p d=>⟨M.add m.s.nx mi,?_,λv i=>x M _ (by simp[Pm.add]) p3 v i⟩⟩;rw[p2] at d;have d:bV M m.s.nx W.nx:=d;unfold Sm;rw[p2];show cU m.s.h.get M w W.h.get _ w m.s.nx W.nx
 rw[l] at d;rw[l,y];exact cU.nB (o:=o) (mi:=mi) p (d _ (Zah _) (Zbr _)) (λh=>by grind) (Zah _) (λ_ _=>rfl) rfl rfl rfl (u _ _) (λc xs e q=>absurd q (g c xs e))
def Qu (h:(QbC D V m b o Z).H m'):zj m m' .dF (.own b o Z):=by
 obtain⟨k,a,h1⟩:=ai.1 h;clear a;cases k<;>simp only at h1<;>(try exact h1.elim)
 rename_i c _ e _
 obtain⟨hk,f⟩:=bA.1 h1;obtain⟨d,t,g,i⟩:=bq.1 f;obtain⟨q,j⟩:=cK.1 i;refine DT (mi:=⟨0,0,0,D.size c,0,false⟩) g j (λ_ _ _ h=>by cases h) rfl (λM w=>⟨rfl,rfl,λh=>by cases h⟩) λM s p l v r=>?_
 cases r;exact .kD (xd l p) (aN.1 hk) rfl q.symm rfl
def Qv {f:List (D.E o)} (h:(QbD D V m b o f).H m'):zj m m' .dF (.grow o f b):=by
 obtain⟨c,a,h1⟩:=ai.1 h;clear a;cases c<;>simp only at h1<;>(try exact h1.elim)
 rename_i c2 e
 obtain⟨d,q,g,i⟩:=bq.1 h1;obtain⟨rfl,j⟩:=cK.1 i;refine DT (mi:=⟨0,0,0,D.size c2,0,false⟩) g j (λ_ _ _ h=>by cases h) rfl (λM w=>⟨rfl,λh=>by cases h⟩) λM p l k v n=>?_
 cases n;exact .jZ (xd k l) rfl
theorem Yb (Q:aY D) {k:Nat} {n:Int} (h:(QdK D m b O Z c k n).H m'):zj m m' (.pre b O Z) (.own c k n):=by
 unfold QdK at h;rcases gY.1 h with⟨_,h0⟩ | ⟨h0,h1⟩
 ·exact h0.elim
 obtain⟨hk,h2⟩:=bA.1 h1;obtain rfl:=aN.1 hk;obtain⟨a,ha,h3⟩:=ai.1 h2;rcases gY.1 h3 with⟨_,P⟩ | ⟨K,P⟩
 ·exact P.elim
 obtain⟨A,hs,X⟩:=ai.1 P;obtain⟨b2,q,u,N⟩:=bq.1 X;obtain⟨rfl,h7⟩:=cK.1 N;rcases gY.1 h7 with⟨_,y⟩ | ⟨y,h9⟩
 ·exact y.elim
 have y:zp m.r b2=false:=y;have F:=jt ha;obtain⟨W,xs,e,ro⟩:=a;simp only at K F u;subst K;obtain⟨q1,f⟩:=ue hs;obtain⟨p1,p2,p3⟩:=Cb h9;obtain⟨rfl,g1,g2⟩:=qL u;rw[f] at g1 y p3;rw[f,q1] at g2;have hno:=mA h0;have Y:=mA y;have T:Mv m ⟨q,m.r,m.todo⟩:=by
  refine⟨id,.refl _,λt W e=>?_,λ_ h=>h,λ_ _ h=>.inl h,by grind⟩;show q.h.get W=m.s.h.get W
  rw[g2];grind [ja]
 refine⟨T.trans p1,λM w z x=>?_⟩;obtain⟨mi,I,X,N,S⟩:=z.obj b _ F;rw[p2] at x;have E:bV M m.s.nx q.nx:=x;rw[g1] at E;have x:M.pl m.s.nx=none:=E _ (Zah _) (Zbr _);unfold Sm;rw[p2];show ∃B,cU m.s.h.get M w q.h.get B w m.s.nx q.nx/\_
 rw[g1,g2]
 
 by_cases hle:0<=Z/\Z.toNat<=mi.len
 ·let d:MI:=⟨mi.bY,mi.sh,mi.qK,mi.je,Z.toNat,mi.real⟩
  have G:d.len=(dE xs Z).length:=by grind [dE]
  have L:∀B:Pm D,B.pl m.s.nx=some d->∀v,VR M (.pre b O Z) v->VR (rl m'.r B) (.own c O Z) v:=λB J v p=>by
   cases p with
   | pre h hk g u U hl hc ht=>
    rename_i l cap O_
    rw[I] at h;cases h;subst u;exact VR.own (mi:=d) (xd p3 J) hk g rfl (by grind) (by grind) ht
   | oV h hk g u h0=>
    rw[I] at h;cases h;exact VR.kD (mi:=d) (xd p3 J) hk g u (by grind)
  by_cases g:mi.real
  ·obtain⟨C,fz,k1,k2,k3,k4,k5⟩:=S g;have R:Le M (M.add m.s.nx d):=Pm.qU x;have:=cU.upon (b0:=b) (b1:=m.s.nx) (o0:=.arr W xs e false) (o1:=.arr W (dE xs Z) e false) (rI:=mi) (B3:=d) (M1:=M.add m.s.nx d) (sg1:=M.sg) (lo:=m.s.nx) (hi:=m.s.nx+1) (w':=w) z F rfl I g g rfl rfl (.inr ⟨rfl,x,rfl⟩) (λ_ _ _ h=>h) (λ_ _ h=>.inl h) rfl (λ_ _=>rfl) rfl rfl rfl
    ⟨G,N,λ_=>⟨C,fz,k1,k2,by
     have:(aV W (dE xs Z)).length<=(aV W xs).length:=by
      rw[bf Q,bf Q];exact Zbc _ (by grind)
     show mi.sh+_<=mi.qK
     omega,λi v p=>by
     have V:(aV W xs)[i]?=some v:=by
      rw[show dE xs Z=xs.take Z.toNat from rfl,nF Q] at p;rw[Za7] at p;split at p
      ·exact p
      ·cases p
     obtain⟨v',a1,a2⟩:=k4 i v V;exact⟨v',a1,a2.mono R⟩,k5⟩⟩
    (λo v p=>by
     rw[z.sep b _ mi F rfl I g o trivial] at p;cases p) (λ_ j _=>z.sep b _ mi F rfl I g j trivial)
   refine⟨M.add m.s.nx d,?_,L _ (by simp[Pm.add])⟩;assumption
  ·have hr':mi.real=false:=by grind
   have A:=cU.drop (b:=b) z m.s.nx;have q:=cU.nB (o:=.arr W (dE xs Z) e false) (mi:=d) A.fJ x (λh=>absurd h g) (Zah _) (λ_ _=>rfl) rfl rfl rfl (w':=w) ⟨G,N,λh=>absurd h g⟩;exact⟨M.add m.s.nx d,A.trans q,L _ (by simp[Pm.add])⟩
 ·
  let d:MI:=⟨0,0,0,D.size W,(dE xs Z).length,false⟩
  have A:=cU.drop (b:=b) z m.s.nx;have q:=cU.nB (o:=.arr W (dE xs Z) e false) (mi:=d) A.fJ x (λh=>by cases h) (Zah _) (λ_ _=>rfl) rfl rfl rfl (w':=w) ⟨rfl,rfl,λh=>by cases h⟩;refine⟨M.add m.s.nx d,A.trans q,λv p=>?_⟩;exfalso;cases p with
  | pre h hk g u U hl hc ht=>
   grind
  | oV h hk g u h0=>
   omega
end
end sx
end Go.Proofs.YtiiiphndmbabcaaGreat
