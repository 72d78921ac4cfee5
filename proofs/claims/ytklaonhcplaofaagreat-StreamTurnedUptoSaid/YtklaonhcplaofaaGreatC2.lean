/- StreamTurned: a part of the proof. -/
import Derived.Test.YtklaonhcplaofaaGreatC1
import Derived.Laws.StructEq
import Derived.Tactics
import Derived.Orders
set_option linter.all false
namespace Go.Proofs.YtklaonhcplaofaaGreat
namespace sx
open Go Go.RowKit
section
variable {P:Program} {D:Data} {cd:TypeId->Option Nat} {M M':Pm D} {φ:T (AV D.E)} {a:Act} {N:Nat} {w w':World} {H:Hp D} {s s':St D.E}
variable {v z:Value} {x y X:AV D.E} {e:TypeId} {b c:Bool} {Z:BinOp} {Y W:Operand} {d:TypeDesc}
def Qk2 (v:Value):Option Bool:=match v with
 | .pointer a=>some a.isNone
 | .map a=>some a.isNone
 | .slice a _ _=>some a.isNone
 | .nilIface=>some true
 | .iface _ _=>some false
 | .nilFunc=>some true
 | .func _ _ _=>some false
 | _=>none
def tB (v:Value):Nat:=match v with
 | .pointer _=>1 | .slice _ _ _=>2 | .map _=>3 | .nilFunc=>4 | .func _ _ _=>4 | .nilIface=>5 | .iface _ _=>5
 | _=>0
def y8 (h:(AM D x).H b) (c:VR M x v):Qk2 v=some b/\tB v=Fc D x:=by
 cases c<;>simp only[AM] at h<;>first | (exact h.elim) | (cases au.1 h;exact⟨rfl,rfl⟩) | (obtain⟨h0,h1⟩:=cT.1 h;first | (cases au.1 h1;exact⟨rfl,rfl⟩) | (simp[ay,ag] at h0))
def Ϻ (h:tB v=1):∃a,v=.pointer a:=by cases v<;>first | exact⟨_,rfl⟩ | cases h
def ϻ (h:tB v=2):∃a l c,v=.slice a l c:=by cases v<;>first | exact⟨_,_,_,rfl⟩ | cases h
def Qaa (h:tB v=3):∃a,v=.map a:=by cases v<;>first | exact⟨_,rfl⟩ | cases h
def Qab (h:tB v=4):v=.nilFunc\/∃f a b,v=.func f a b:=by cases v<;>first | exact .inl rfl | exact .inr ⟨_,_,_,rfl⟩ | cases h
def Qac (h:tB v=5):v=.nilIface\/∃t u,v=.iface t u:=by cases v<;>first | exact .inl rfl | exact .inr ⟨_,_,rfl⟩ | cases h
def QeV:tB v≠6:=by cases v<;>simp[tB]
theorem LB (h:(ϯ D d x y).H (b,c)) (i:P.underlying e=some d) (s:VR M x v) (u:VR M y z) (n:Nat) (w:World):(Op.equalIn (n+1) e v z).run P w=.ok b w:=by
 obtain⟨r,h1⟩:=bw.1 h;obtain⟨f,m⟩:=bw.1 h1;obtain⟨b1,l,o⟩:=ai.1 m;obtain⟨j,e2,p⟩:=ai.1 o;obtain⟨g1,k1⟩:=y8 l s;obtain⟨g2,k2⟩:=y8 e2 u;rw[aM,<-k1] at r;rw[aM,<-k2] at f;have A:b=(b1&&j)/\(b1||j):=by
  rcases gA.1 p with⟨B,q⟩ | ⟨_,q⟩
  ·grind [au]
  ·exact q.elim
 obtain⟨rfl,a⟩:=A;clear h h1 m o p l e2 k1 k2 s u;cases d with
 | pointer t=>
  obtain⟨g,rfl⟩:=Ϻ r;obtain⟨a2,rfl⟩:=Ϻ f;cases g<;>cases a2<;>cases g1<;>cases g2<;>first | (cases a;done) | simp[Op.equalIn,Zza i]
 | slice t=>
  obtain⟨g,C,c1,rfl⟩:=ϻ r;obtain⟨a2,F,c2,rfl⟩:=ϻ f;cases g<;>cases a2<;>cases g1<;>cases g2<;>first | (cases a;done) | simp[Op.equalIn,Zza i]
 | map k t=>
  obtain⟨g,rfl⟩:=Qaa r;obtain⟨a2,rfl⟩:=Qaa f;cases g<;>cases a2<;>cases g1<;>cases g2<;>first | (cases a;done) | simp[Op.equalIn,Zza i]
 | func G rs I=>
  rcases Qab r with rfl | ⟨_,_,_,rfl⟩<;>rcases Qab f with rfl | ⟨_,_,_,rfl⟩<;>cases g1<;>cases g2<;>first | (cases a;done) | simp[Op.equalIn,Zza i]
 | interface ms=>
  rcases Qac r with rfl | ⟨_,_,rfl⟩<;>rcases Qac f with rfl | ⟨_,_,rfl⟩<;>cases g1<;>cases g2<;>first | (cases a;done) | simp[Op.equalIn,Zza i]
 | _=>exact absurd r QeV
theorem LC (h:(IF D x y).H (b,c)) (g:VR M x v) (f:VR M y z):∃k a r,v=.int k a/\z=.int k r/\b=decide (a=r):=by
 cases x<;>simp only[IF] at h<;>(try exact h.elim)
 case int k a=>
  obtain⟨i,r,h1,m⟩:=bk.1 h;obtain⟨d,e⟩:=bw.1 m;obtain rfl:=fE.1 d;cases au.1 e;cases g;obtain⟨rfl,_⟩:=ia h1 f;exact⟨_,_,_,rfl,rfl,rfl⟩
 case num k a=>
  cases g;cases y<;>simp only at h<;>(try exact h.elim)
  case int i r=>
   obtain⟨d,e⟩:=bw.1 h;obtain rfl:=fE.1 d;cases au.1 e;cases f;exact⟨_,_,_,rfl,rfl,rfl⟩
  case num i r=>
   obtain⟨d,e⟩:=bw.1 h;obtain rfl:=fE.1 d;cases au.1 e;cases f;grind [ql]
theorem FG (h:(Fe D d x y).H (b,c)) (l:P.underlying e=some d) (f:VR M x v) (g:VR M y z) (n:Nat) (w:World):(Op.equalIn (n+1) e v z).run P w=.ok b w:=by
 cases d with
 | bool=>
  obtain⟨a,p,i,h1⟩:=bk.1 (show(aL (x_ x) λa p=>aL (x_ y) λr q=>.ret (pO a r,Bool.and p q)).H (b,c) from h);obtain⟨r,q,j,t⟩:=bk.1 h1;have t:=au.1 t;simp only[Zbx] at t;obtain⟨rfl,_⟩:=t;obtain rfl:=FB i f;obtain rfl:=FB j g;cases a<;>cases r<;>simp[Op.equalIn,Zza l,pO]
 | int s=>
  obtain⟨k,a,r,rfl,rfl,rfl⟩:=LC (show(IF D x y).H (b,c) from h) f g;simp only[Op.equalIn,Zza l,Zzd,Zzb];simp
  try rfl
 | string=>
  obtain⟨a,i,h1⟩:=ai.1 (show(az (gz x) λa=>az (gz y) λr=>.ret (seq a r,false)).H (b,c) from h);obtain⟨r,j,t⟩:=ai.1 h1;have t:=au.1 t;simp only[Zbx] at t;obtain⟨rfl,_⟩:=t;obtain⟨rfl,_⟩:=lW i f;obtain⟨rfl,_⟩:=lW j g;grind [run_equalIn_string,ByteArray.toList_eq,seq]
 | _=>exact LB h l f g n w
def y9 (a b:Bool×Bool):(Cs a b).1=(a.1&&b.1):=by
 obtain⟨x,p⟩:=a;obtain⟨y,q⟩:=b;cases x<;>cases p<;>cases y<;>cases q<;>rfl
theorem rr {ih:TypeId->AV D.E->AV D.E->C (Bool×Bool)} {n:Nat} {xs ys:List (AV D.E)} {X Y:Array Value} (hX:LR M xs X.toList) (hY:LR M ys Y.toList)
  (hih:∀(t:TypeId) (x y:AV D.E) (x' y':Value) (r:Bool×Bool),(ih t x y).H r->VR M x x'->VR M y y'->∀w,(Op.equalIn n t x' y').run P w=.ok r.1 w):∀{fs:List Field} {r:Bool×Bool},(eqFields P D ih xs ys fs).H r->∀w,
  (forIn fs ((none,()):Option Bool×Unit) λf __s=>(if f.name≠ "_" then do
    let __do_lift <-part f.type X f.offset
    let ou <-part f.type Y f.offset
    let __do_lift <-Op.equalIn n f.type __do_lift ou
    if (!__do_lift)=true then Pure.pure (ForInStep.done (some false,())) else Pure.pure (ForInStep.yield (none,()))
   else Pure.pure (ForInStep.yield (none,())):Sem (ForInStep (Option Bool×Unit)))).run P w=.ok (if r.1 then(none,()) else(some false,())) w
 | [],r,h,w=>by cases au.1 (show(C.ret (true,true)).H r from h);simp
 | f::fs,r,h,w=>by
  obtain⟨hn,h1⟩:decide (f.name= "_")=false/\(az (jD P D f.type xs f.offset) λx=>az (jD P D f.type ys f.offset) λy=>az (ih f.type x y) λr=>az (eqFields P D ih xs ys fs) λr'=>.ret (Cs r r')).H r:=by
   rcases gA.1 (show(bE (decide (f.name= "_")) .fail _).H r from h) with⟨_,h9⟩ | ⟨h8,h9⟩
   ·exact h9.elim
   ·exact⟨h8,h9⟩
  have hn':f.name≠ "_" :=by grind
  obtain⟨x,hx,h2⟩:=ai.1 h1;obtain⟨y,hy,h3⟩:=ai.1 h2;obtain⟨q,hq,h4⟩:=ai.1 h3;obtain⟨q2,hq2,h5⟩:=ai.1 h4;cases au.1 h5;obtain⟨x',rx,vx⟩:=jX hx hX;obtain⟨y',ry,vy⟩:=jX hy hY;have he:=hih _ _ _ _ _ _ hq vx vy w;have ihf:=rr hX hY hih hq2 w;rw[ZdJ,y9];cases hq1:q.1 with
  | true=>
   rw[hq1] at he;simp only[Zac hn',Zzd,rx,ry,he,Zzb,ZcF,ZaE,Za0,Zzc,ZbI];exact ihf
  | false=>
   rw[hq1] at he;simp only[Zac hn',Zzd,rx,ry,he,Zzb,Bool.not_false,Zbv,Zzc,ZaE,Za0,Zcw]
theorem tC {d:TypeId->AV D.E->AV D.E->C (Bool×Bool)} {n k:Nat} {xs f:List (AV D.E)} {X Y:Array Value} (p:LR M xs X.toList) (s:LR M f Y.toList)
  (a:∀(t:TypeId) (x y:AV D.E) (l o:Value) (r:Bool×Bool),(d t x y).H r->VR M x l->VR M y o->∀w,(Op.equalIn n t l o).run P w=.ok r.1 w):∀{m i:Nat} {r:Bool×Bool},(uH P D d e k xs f m i).H r->∀w,
  (forIn (List.range' i m) ((none,()):Option Bool×Unit) λi v=>(do
    let __do_lift <-part e X (i*k)
    let ou <-part e Y (i*k)
    let __do_lift <-Op.equalIn n e __do_lift ou
    if (!__do_lift)=true then Pure.pure (ForInStep.done (some false,())) else Pure.pure (ForInStep.yield (none,())):Sem (ForInStep (Option Bool×Unit)))).run P w=.ok (if r.1 then(none,()) else(some false,())) w
 | 0,i,r,h,w=>by cases au.1 (show(C.ret (true,true)).H r from h);simp
 | m+1,i,r,h,w=>by
  obtain⟨x,I,z⟩:=ai.1 (show(az (jD P D e xs (i*k)) λx=>az (jD P D e f (i*k)) λy=>az (d e x y) λr=>az (uH P D d e k xs f m (i+1)) λK=>.ret (Cs r K)).H r from h);obtain⟨y,J,A⟩:=ai.1 z;obtain⟨q,G,B⟩:=ai.1 A;obtain⟨O,g,F⟩:=ai.1 B;cases au.1 F;obtain⟨l,rx,L⟩:=jX I p;obtain⟨o,u,N⟩:=jX J s;have c:=a _ _ _ _ _ _ G L N w;have j:=tC p s a g w;rw[List.range'_succ,ZdJ,y9];cases b:q.1 with
  | true=>
   rw[b] at c;simp only[Zzd,rx,u,c,Zzb,ZcF,ZaE,Za0,Zzc,ZbI];exact j
  | false=>
   rw[b] at c;simp only[Zzd,rx,u,c,Zzb,Bool.not_false,Zbv,Zzc,ZaE,Za0,Zcw]
theorem Je:∀(m:Nat) (n:Nat) (t:TypeId) (x y:AV D.E) (f g:Value) (r:Bool×Bool),(N6 P D m t x y).H r->VR M x f->VR M y g->∀w,(Op.equalIn (n+m) t f g).run P w=.ok r.1 w
 | 0,n,t,x,y,f,g,r,h,_,_,w=>(h:False).elim
 | m+1,n,t,x,y,f,g,r,h,l,o,w=>by
  obtain⟨d,p,h1⟩:=ai.1 (show(az (ud P t) λd=>eqD P D (N6 P D m) t d x y).H r from h);rw[gB] at p;have j:=λt x y f g r h l o w=>Je m n t x y f g r h l o w
  have base:∀q,q=d->(Fe D q x y).H r->(Op.equalIn (n+(m+1)) t f g).run P w=.ok r.1 w:=λq e G=>FG (c:=r.2) G (e▸p) l o (n+m) w
  cases d with
  | struct C=>
   obtain⟨xs,a,s⟩:=ai.1 (show(az (asAgg x) λxs=>az (asAgg y) λi=>bE (P.stoodInHeld t) .fail (eqFields P D (N6 P D m) xs i C.toList)).H r from h1);obtain⟨i,b,u⟩:=ai.1 s;obtain⟨B,v⟩:P.stoodInHeld t=false/\(eqFields P D (N6 P D m) xs i C.toList).H r:=by
    rcases gA.1 u with⟨_,F⟩ | ⟨I,F⟩
    ·exact F.elim
    ·grind
   obtain⟨X,rfl,z⟩:=lX a l;obtain⟨Y,rfl,A⟩:=lX b o;have hl:=rr z A j v w;rw[Nat.add_succ];unfold Op.equalIn;simp only[Zzd,Zza p,Zzb,program,Sem.run,B,ZaE,Za0];rw[<-Array.forIn_toList];rw[hl];cases r.1<;>simp
  | array len e=>
   obtain⟨xs,a,s⟩:=ai.1 (show(az (asAgg x) λxs=>az (asAgg y) λi=>az (sz P e) λk=>uH P D (N6 P D m) e k xs i len 0).H r from h1);obtain⟨i,b,u⟩:=ai.1 s;obtain⟨k,hk,v⟩:=ai.1 u;rw[sE] at hk;obtain⟨X,rfl,z⟩:=lX a l;obtain⟨Y,rfl,A⟩:=lX b o;have hl:=tC z A j v w;rw[Nat.add_succ];unfold Op.equalIn;simp only[Zzd,Zza p,Zzb,cI hk];rw[Std.Legacy.Range.forIn_eq_forIn_range'];simp only[Std.Legacy.Range.size];rw[show(len-0+1-1) / 1=len by simp,hl];cases r.1<;>simp
  | _=>exact base _ rfl h1
def WB (x y:Value):Bool:=match x with
 | .agg _=>match y with
  | .agg _=>false
  | _=>true
 | .nilIface=>match y with
  | .nilIface=>false
  | _=>true
 | _=>true
def gC (op:BinOp) (t:TypeId) (a b:Operand) (x y:Value) (h:WB x y) (w:World):(eqGuard op t a b x y).run P w=.ok () w:=by
 cases op<;>first | rfl | (cases x<;>first | rfl | (cases y<;>first | rfl | cases h))
def y_ {r:Bool×Bool} (h:(Ov P D e x y).H r) (f:VR M x v) (l:VR M y z) (op:BinOp) (c d:Operand) (w:World):(Op.equal e v z).run P w=.ok r.1 w/\(eqGuard op e c d v z).run P w=.ok () w:=by
 have a:(N6 P D 4 e x y).H r->(Op.equal e v z).run P w=.ok r.1 w:=λh=>Je 4 9996 e x y v z r h f l w
 by_cases h1:∃cs,x=.agg cs
 ·obtain⟨cs,rfl⟩:=h1;rcases gA.1 (show(bE (P.eqGuardType P.depth e) .fail (N6 P D 4 e (.agg cs) y)).H r from h) with⟨_,k⟩ | ⟨m,k⟩
  ·exact k.elim
  ·refine⟨a k,?_⟩;cases f;cases z<;>first | exact run_eqGuard_agg w op e c d _ _ m | exact gC op e c d _ _ rfl w
 ·by_cases g:x=.nilIface
  ·subst g;by_cases i:y=.nilIface
   ·subst i;exact(h:False).elim
   ·have j:(N6 P D 4 e .nilIface y).H r:=by
     cases y<;>first | exact h | exact absurd rfl i
    refine⟨a j,gC op e c d _ _ ?_ w⟩;cases f;cases l<;>first | rfl | exact absurd rfl i
  ·have j:(N6 P D 4 e x y).H r:=by
    cases x<;>first | exact h | exact absurd ⟨_,rfl⟩ h1 | exact absurd rfl g
   refine⟨a j,gC op e c d _ _ ?_ w⟩;cases f<;>first | rfl | exact absurd ⟨_,rfl⟩ h1 | exact absurd rfl g
def FH (b c:Bool):VR M (mkT D b c) (.bool b):=by
 cases c
 ·exact .bool b
 ·exact .lit b
theorem O' (h:(Qey P D Z e x y).H X) (q:VR M x v) (n:VR M y z) (l m:Operand) (w:World):
  ∃d,(do eqGuard Z e l m v z;binOp Z e v z:Sem Value).run P w=.ok d w/\VR M X d:=by
 have eqs:∀(s:∀(j:Value),(binOp .eql e v j)=(do Pure.pure (.bool (<-Op.equal e v j)))/\(binOp .neq e v j)=(do Pure.pure (.bool (!(<-Op.equal e v j))))),(Ow P D Z e x y).H X->
   ∃d,(do eqGuard Z e l m v z;binOp Z e v z:Sem Value).run P w=.ok d w/\VR M X d:=by
  intro s h1;cases Z<;>simp only[Ow] at h1<;>(try exact h1.elim)
  ·obtain⟨r,c,p,f⟩:=bk.1 h1;cases au.1 f;obtain⟨o,e2⟩:=y_ p q n .eql l m w;exact⟨.bool r,by simp_all,FH r c⟩
  ·obtain⟨r,c,p,f⟩:=bk.1 h1;cases au.1 f;obtain⟨o,e2⟩:=y_ p q n .neq l m w;exact⟨.bool (!r),by simp_all,FH (!r) c⟩
 have ints:∀{k i:IntKind} {a b:Int},v=.int k a->z=.int i b->(∃d,(∀w,(binOp Z e (.int k a) (.int i b)).run P w=.ok d w)/\VR M X d)->∃d,(do eqGuard Z e l m v z;binOp Z e v z:Sem Value).run P w=.ok d w/\VR M X d:=by
  rintro k i a b rfl rfl ⟨d,h1,f⟩;exact⟨d,by simp only[Zzd,gC Z e l m (.int k a) (.int i b) rfl w,Zzb,h1],f⟩
 cases q with
 | @int k a g=>
  obtain⟨i,b,h1,f⟩:=bk.1 (show(aL (cA y) λi b=>Wr D Z k i a b).H X from h);obtain⟨rfl,_⟩:=ia h1 n;exact ints rfl rfl (CF f g e)
 | num g=>
  cases y<;>first | exact(h:False).elim | skip
  case int i b=>
   cases n;exact ints rfl rfl (CF h g e)
  case num i b=>
   cases n;obtain⟨u,h1,f⟩:=ai.1 h;cases au.1 f;obtain⟨o,e2⟩:=Fw (P:=P) (bz.1 h1) g e;exact ints rfl rfl ⟨_,o,QeQ e2⟩
 | @str a hl=>
  obtain⟨b,h1,f⟩:=ai.1 (show(az (gz y) λb=>AL D Z a b).H X from h);obtain⟨rfl,_⟩:=lW h1 n;obtain⟨d,o,e2⟩:=Fy (P:=P) (M:=M) f e;exact⟨d,by simp only[Zzd,gC Z e l m (.string ⟨⟨a⟩⟩) (.string ⟨⟨b⟩⟩) rfl w,Zzb,o],e2⟩
 | _=>exact eqs (λj=>⟨rfl,rfl⟩) h
def WC {op:UnOp} (h:(unA D op x).H y) (d:VR M x v):∃f,(∀w,(Op.unary op v).run P w=.ok f w)/\VR M y f:=by
 cases op<;>simp only[unA] at h<;>(try exact h.elim)
 case neg=>
  cases x<;>simp only at h<;>(try exact h.elim)
  case int k n=>
   cases au.1 h;cases d;refine⟨.int k (k.wrap (0-n)),λw=>by rfl,?_⟩;rw[Int.zero_sub];exact .int (cB _ _)
  case num k n=>
   obtain⟨c,a,h1⟩:=ai.1 h;cases au.1 h1;have a:=bz.1 a;rw[fO,jg] at a;subst a;cases d;refine⟨.int k (k.wrap (0-n)),λw=>by rfl,?_⟩;rw[Int.zero_sub];exact .num (cB _ _)
 case xor=>
  have e:∀(k:IntKind) (n:Int),(BitVec.ofInt k.bits (if k.signed then-1 else k.max) ^^^ BitVec.ofInt k.bits n).toNat=Nat.xor (t_ k-1) (Co k n):=λk n=>by
   rw[Zdu,<-j_,<-j_];congr 1;cases k<;>rfl
  cases x<;>simp only at h<;>(try exact h.elim)
  case int k n=>
   cases au.1 h;cases d;exact⟨_,λw=>by rfl,by rw[e];exact .int (cB _ _)⟩
  case num k n=>
   obtain⟨c,a,h1⟩:=ai.1 h;cases au.1 h1;have a:=pd (bz.1 a);subst a;cases d;exact⟨_,λw=>by rfl,by rw[e];exact .num (cB _ _)⟩
 case not=>
  obtain⟨b,c,h1,i⟩:=bk.1 h;cases au.1 i;obtain rfl:=FB h1 d;exact⟨.bool (!b),λw=>by rfl,FH (!b) c⟩
theorem A9 (h:isConst Y):∃v,Y=.const v:=by
 cases Y<;>first | exact⟨_,rfl⟩ | cases(show false=true from h)
def zc (h:QbX D x):x=.nilIface:=by
 cases x<;>first | rfl | cases(show false=true from h)
def O_ (c:(∃v,Y=.const v)\/(∃v,W=.const v)) (w:World):(eqGuard Z e Y W .nilIface .nilIface).run P w=.ok () w:=by
 rcases c with⟨v,rfl⟩ | ⟨v,rfl⟩
 ·cases Z<;>rfl
 ·cases Y<;>cases Z<;>rfl
theorem Pb (h:(QeA P D Z e Y W x y).H X) (l:VR M x v) (m:VR M y z) (w:World):
  ∃n,(do eqGuard Z e Y W v z;binOp Z e v z:Sem Value).run P w=.ok n w/\VR M X n:=by
 rcases gA.1 h with⟨h1,c⟩ | ⟨_,c⟩
 ·obtain⟨A,o⟩:=lD h1;obtain⟨p,q⟩:=lD o;obtain rfl:=zc p;obtain rfl:=zc q;have k:(∃X,Y=.const X)\/(∃X,W=.const X):=by
   grind [A9]
  obtain⟨d,i,r⟩:=ai.1 c;obtain⟨s,f⟩:=bw.1 r;have i:P.underlying e=some d:=bz.1 i;cases l;cases m;have t:(Op.equal e .nilIface .nilIface).run P w=.ok true w:=by
   cases d<;>first | (cases(show false=true from s);done) | skip
   show(Op.equalIn (9999+1) e _ _).run P w=_
   unfold Op.equalIn;simp only[Zzd,Zza i,Zzb,Zzc]
  have g:(eqGuard Z e Y W .nilIface .nilIface).run P w=.ok () w:=O_ k w;cases Z<;>first | exact(show False from f).elim | skip
  ·cases au.1 f;have u:binOp .eql e .nilIface .nilIface=(do Pure.pure (.bool (<-Op.equal e .nilIface .nilIface))):=rfl;exact⟨.bool true,by simp_all,.lit true⟩
  ·cases au.1 f;have u:binOp .neq e .nilIface .nilIface=(do Pure.pure (.bool (!(<-Op.equal e .nilIface .nilIface)))):=rfl;exact⟨.bool false,by simp_all,.lit false⟩
 ·exact O' c l m Y W w
end
section
variable {P:Program} {D:Data} {cd:TypeId->Option Nat} {M M':Pm D} {φ φ':T (AV D.E)} {a:Act} {N:Nat} {w w':World} {H:Hp D} {s s':St D.E}
variable {v i:AV D.E} {o:Oper} {c:Value} {Z:TypeId} {b:List (AV D.E)} {Y:Bool} {X:Array TypeId} {W:World} {A:Array Value} {V:Array Operand}
theorem LD {x v:AV D.E} {x':Value} (h:(OC D x).H v) (hx:VR M x x'):∀w,((match x' with
  | .pointer none | .nilIface | .nilFunc=>runtimePanic .nilDeref
  | .func (.method name) first captured=>
   match (first[0]?:Option Value) with
   | some .nilIface=>runtimePanic .nilDeref
   | some (.iface t w)=>do
    if (<-nilAhead ((<-program).types.size+Made.depth) t w name) !=some false then
     unsupported (.noEntry "op/nilCheck.the method's receiver behind this interface value is a nil pointer, or cannot be seen to be none, and the arguments act or may panic (ledger 612)")
    Pure.pure (.value (.func (.method name) first captured))
   | _=>Pure.pure (.value (.func (.method name) first captured))
  | x=>Pure.pure (.value x):Sem Next)).run P w=.ok (.value x') w/\v=x:=by
 intro w;unfold OC at h;cases hx<;>simp only at h<;>(try exact h.elim)
 case ptr=>cases au.1 h;exact⟨rfl,rfl⟩
 case j7=>cases au.1 h;exact⟨rfl,rfl⟩
 case lL=>cases au.1 h;exact⟨rfl,rfl⟩
 case mP=>cases au.1 h;exact⟨rfl,rfl⟩
 case func fn _ _ _ _ _ _ _ _=>
  cases fn<;>simp only at h<;>(try exact h.elim);cases au.1 h;simp_all
def CQ (h:(IJ P D Z v).H i) (e:VR M v c):∃b,(∀w,(Instr.makeInterface Z c).run P w=.ok b w)/\VR M i b:=by
 obtain⟨d,a,h1⟩:=ai.1 h;rw[gB] at a;cases d<;>simp only at h1<;>(try exact h1.elim)
 all_goals (cases au.1 h1;exact⟨_,λw=>by simp only[Instr.makeInterface,Zzd,Zza a,Zzb,Zzc],.iface Z e⟩)
theorem qp {F:Value->Value->Sem Value} (p:∀(k:IntKind) (x y:Int) (w:World),(F (.int k x) (.int k y)).run P w=.ok (.int k (bif Y then fK x y else imax x y)) w):∀{d:List (AV D.E)} {c:List Value} {x v:AV D.E} {e:Value},(n_ D Y d x).H v->LR M d c->VR M x e->
  ∃g,(∀w,(c.foldlM F e).run P w=.ok g w)/\VR M v g
 | [],c,x,v,e,h,hl,i=>by
  cases au.1 (show(C.ret x).H v from h);rw[hl.kW];simp_all
 | y::d,c,x,v,e,h,hl,i=>by
  obtain⟨k,a,l,h1⟩:=bk.1 (show(aL (cA x) λk a=>aL (cA y) λj b=>bB (AI k j) (n_ D Y d (.int k (bif Y then fK a b else imax a b)))).H v from h);obtain⟨j,b,e2,n⟩:=bk.1 h1;obtain⟨m,o⟩:=bw.1 n;obtain rfl:=fE.1 m;obtain⟨z,r,rfl,s,q⟩:=hl.bD;obtain⟨rfl,i1⟩:=ia l i;obtain⟨rfl,i2⟩:=ia e2 s;have f:iY k (bif Y then fK a b else imax a b):=by
   grind [imax,fK]
  obtain⟨g,t,u⟩:=qp p o q (.int f);simp_all
theorem WD {ts:Array TypeId} {ty:TypeId} (h:(n_ D true (nI 1 b) v).H i) (h0:gn b 0=some v) (hl:LR M b A.toList):∃a,(∀w,(Builtin.min_ ts ty A).run P w=.ok a w)/\VR M i a:=by
 cases b with
 | nil=>cases h0
 | cons y b=>
  cases(show some y=some v from h0);obtain⟨g,r,e,d,c⟩:=hl.bD;obtain⟨a,h1,f⟩:=qp (P:=P) (F:=Builtin.min2) (λk v y w=>by rfl) (show(n_ D true b v).H i from h) c d;grind [Builtin.min_]
theorem WE {ts:Array TypeId} {ty:TypeId} (h:(n_ D false (nI 1 b) v).H i) (h0:gn b 0=some v) (hl:LR M b A.toList):∃a,(∀w,(Builtin.max_ ts ty A).run P w=.ok a w)/\VR M i a:=by
 cases b with
 | nil=>cases h0
 | cons y b=>
  cases(show some y=some v from h0);obtain⟨g,r,e,d,c⟩:=hl.bD;obtain⟨a,h1,f⟩:=qp (P:=P) (F:=Builtin.max2) (λk v y w=>by rfl) (show(n_ D false b v).H i from h) c d;grind [Builtin.max_]
def Pc (h:(Ox D v).H i) (o:VR M v c):∃l n cap,c=.slice l n cap/\VR M i (goInt n):=by
 have f:∀n:Nat,n<=9223372036854775807->VR M (.int .i64 (n:Int):AV D.E) (goInt n):=λn d=>.int (iZ d)
 cases o<;>simp only[Ox] at h<;>(try exact h.elim)
 case dd=>cases au.1 h;exact⟨_,_,_,rfl,.num (iZ (Zaj _))⟩
 case own a e x d g j ht=>cases au.1 h;subst d;exact⟨_,_,_,rfl,f _ g⟩
 case lE a e x d hl=>cases au.1 h;subst d;exact⟨_,_,_,rfl,f 0 (Zaj _)⟩
 case pre a e x d g hl j ht=>cases au.1 h;subst d;exact⟨_,_,_,rfl,f _ ω⟩
 case og a e x d hl=>cases au.1 h;subst d;exact⟨_,_,_,rfl,f 0 (Zaj _)⟩
 case part a e x d m hl g j=>cases au.1 h;subst d;exact⟨_,_,_,rfl,f _ ω⟩
 case jf a e d m=>cases au.1 h;subst d;exact⟨_,_,_,rfl,f 0 (Zaj _)⟩
 case grow a x hl hz hs g j ht=>cases au.1 h;exact⟨_,_,_,rfl,f _ g⟩
 case jF a x=>cases au.1 h;exact⟨_,_,_,rfl,f 0 (Zaj _)⟩
 case sub a x j g=>
  obtain⟨k,b,h1⟩:=ai.1 h;cases au.1 h1;have b:=rb.1 (bz.1 b);subst b;exact⟨_,_,_,rfl,.num (iZ g)⟩
 case oh=>
  obtain⟨k,b,h1⟩:=ai.1 h;cases au.1 h1;have b:=rb.1 (bz.1 b);subst b;exact⟨_,_,_,rfl,.num (iZ (Zaj _))⟩
 case list hs g j=>cases au.1 h;exact⟨_,_,_,rfl,f _ g⟩
 case eD=>cases au.1 h;exact⟨_,_,_,rfl,f 0 (Zaj _)⟩
def Pd {ty:TypeId} (h:(QeC P D Z v).H i) (j:VR M v c) (k:Array TypeId) (o:Array Value) (h0:k[0]?=some Z) (h1:o[0]?=some c):
  ∃m,(Builtin.len_ k ty o).run P w=.ok m w/\VR M i m:=by
 obtain⟨d,g,b⟩:=ai.1 h;rw[gB] at g;cases d<;>simp only at b<;>(try exact b.elim)
 case string=>
  obtain⟨l,hl,x⟩:=ai.1 b;cases au.1 x;obtain⟨rfl,f⟩:=lW hl j;have da:(⟨⟨l⟩⟩:ByteArray).size=l.length:=rfl;exact⟨goInt l.length,by simp[Builtin.len_,h0,h1,Zza g,da],.int (iZ f)⟩
 case slice e=>
  obtain⟨y,n,cap,rfl,u⟩:=Pc b j;exact⟨goInt n,by simp[Builtin.len_,h0,h1,Zza g],u⟩
 case array n e=>
  obtain⟨p,a,x⟩:=ai.1 b;obtain⟨r,q⟩:=bw.1 x;cases au.1 q;have a:=rb.1 (bz.1 a);subst a;have s:n<=1099511627776:=cm.1 r;exact⟨_,by simp[Builtin.len_,h0,h1,Zza g];rfl,.num (iZ ω)⟩
def Qcb (e:Ex):Exit:=match e with
 | .normal=>.normal
 | .exit id=>.exit id
 | .ret=>.ret
def FI (P:Program) (D:Data) (f:FuncId) (args:List (AV D.E)) (s:St D.E) (v:AV D.E) (a:St D.E):Prop:=s.nx<=a.nx/\(∃fn c,P.funcs[f]?=some fn/\fn.body=some c)/\
 ∀(M:Pm D) (A:Array Value) (w:World),LR M args A.toList->dQ M s.h.get w->bT M s.nx a.nx->
  ∀R:Ending->World->Prop,(∀b d e,VR b v d->cP s.h.get M w a.h.get b e s.nx a.nx->R (.returned d) e)->Calls P f A w R
def sG (P:Program) (D:Data) (b:tr D.E):Prop:=∀(f:FuncId) (args:List (AV D.E)) (s:St D.E) (v:AV D.E) (a:St D.E),(b f args s).H (v,a)->FI P D f args s v a
def ef (P:Program) (o:Oper) (a:Act) (s:St D.E) (M:Pm D) (w:World) (v:AV D.E) (e:St D.E):Prop:=
 (∃d b c,((execOp a.eval o).run P w=.ok (.value b) c\/((execOp a.eval o).run P w=.ok .skip c/\b=Go.undef))/\VR d v b/\cP s.h.get M w e.h.get d c s.nx e.nx)\/
 (∃f A,(execOp a.eval o).run P w=.ok (.enter f A) w/\∀R:Ending->World->Prop,(∀d b c,VR d v b->cP s.h.get M w e.h.get d c s.nx e.nx->R (.returned b) c)->Calls P f A w R)
def ef.wp {a2:Act} (h:ef P o a s M w v s') (j:execOp a2.eval o=execOp a.eval o) (K:Act->World->Prop) (Q:Exit->Act->World->Prop)
  (g:∀b d c,VR b v d->cP s.h.get M w s'.h.get b c s.nx s'.nx->K (a2.put o.dst d) c):o.wp P a2 w K Q:=by
 unfold Oper.wp;rw[j];rcases h with⟨b,d,c,h1 | ⟨h1,rfl⟩,e,hs⟩ | ⟨f,A,h1,i⟩
 ·rw[h1];exact g b d c e hs
 ·rw[h1];exact g b Go.undef c e hs
 ·rw[h1];exact i _ λb d c e hs=>g b d c e hs
def ef.same (h:ef P o a s M w v s') (g:∀b c,VR b v c->VR b i c):ef P o a s M w i s':=by
 rcases h with⟨b,c,e,h1,d,hs⟩ | ⟨f,A,h1,d⟩
 ·exact .inl ⟨b,c,e,h1,g _ _ d,hs⟩
 ·exact .inr ⟨f,A,h1,λR k=>d R λb c e j hs=>k b c e (g _ _ j) hs⟩
def ef.value (h:(execOp a.eval o).run P w=.ok (.value c) W) (d:VR M' v c) (hs:cP s.h.get M w s'.h.get M' W s.nx s'.nx):ef P o a s M w v s':=
 .inl ⟨M',c,W,.inl h,d,hs⟩
def ef.res {r:Result Value} (d:uN s M w r v s') (h:∀b c,r=.ok b c->(execOp a.eval o).run P w=.ok (.value b) c):ef P o a s M w v s':=by
 obtain⟨g,b,c,e,f,hs⟩:=d;exact .value (h b c e) f hs
theorem ef.pure {v':Value} (b:dQ M s.h.get w) (h:(execOp a.eval o).run P w=.ok (.value v') w) (c:VR M v v'):ef P o a s M w v s:=.value h c (.refl b _)
def ef.skip {r:Result Unit} (d:QeR s M w r s') (h:∀b,r=.ok () b->(execOp a.eval o).run P w=.ok .skip b):ef P o a s M w undef s':=by
 obtain⟨c,b,e,hs⟩:=d;exact .inl ⟨c,Go.undef,b,.inr ⟨h b e,rfl⟩,.undef,hs⟩
theorem dq {x:C (AV D.E)} (h:(hU D s x).H (v,s')):x.H v/\s'=s:=by
 obtain⟨u,hu,h1⟩:=ai.1 h;grind [au]
theorem Qcc {x:C (St D.E)} (h:(QeH D x).H (v,s')):x.H s'/\v=undef:=by
 obtain⟨u,hu,h1⟩:=ai.1 h;grind [au]
theorem fP {α:Type} {x:Sem α} {f:α->Next} {v:α} {a:World} (h:x.run P W=.ok v a):(do Pure.pure (f (<-x)):Sem Next).run P W=.ok (f v) a:=by
 simp_all
theorem QeW {x:Sem Unit} {a:World} (h:x.run P W=.ok () a):(do x;Pure.pure .skip:Sem Next).run P W=.ok .skip a:=by
 simp_all
theorem pj (h:(Ot P D φ V.toList).H b) (c:FR M φ a N):LR M b (V.map a.eval).toList:=by
 grind [Array.toList_map,O4]
theorem zd {i:Nat} (h:(Ot P D φ V.toList).H b) (e:FR M φ a N) (c:gn b i=some v):∃d,(V.map a.eval)[i]?=some d/\VR M v d:=by
 rw[eI] at c;obtain⟨d,h1,f⟩:=(pj h e).get c;grind
theorem Pe {i:Nat} (h:gn X.toList i=some Z):X[i]?=some Z:=by
 grind [eI]
theorem A' (G:aY D) {L:Builtin} {c:Call} (S:o.op=.call c) (R:c.callee=.builtin L) (g:(Ot P D φ c.args.toList).H b) (h:(jW P D cd Y L s c.argTypes.toList b).H (v,s')) (p:dQ M s.h.get w) (l:FR M φ a N) (I:bT M s.nx s'.nx):
  ef P o a s M w v s':=by
 have J:∀(x:Sem Next),(do let d <-resolve a.eval c o.type;invoke d.target d.args:Sem Next)=x->(execOp a.eval o)=x:=λx J=>by
  unfold execOp;rw[S];exact J
 have q:(execOp a.eval o)=builtin L c.argTypes o.type (c.args.map λ| .const _=>true | _=>false) (c.args.map a.eval):=J _ (by
  unfold resolve;rw[R];rfl)
 cases L<;>simp only[jW] at h<;>(try exact h.elim)
 case append=>
  obtain⟨t,ht,h1⟩:=ai.1 h;obtain⟨u,hu,Q⟩:=ai.1 h1;obtain⟨d,A,F⟩:=ai.1 Q;obtain⟨x,f,k⟩:=ai.1 F;rw[bz] at ht hu A f;obtain⟨K,m,n⟩:=zd g l A;obtain⟨C,i,j⟩:=zd g l f;have T:=CI (ty:=o.type) G k n j p I;refine ef.res T λB O e=>?_
  rw[q];have e2:(Builtin.append_ c.argTypes o.type (c.args.map a.eval))=Builtin.append_ #[t,u] o.type #[K,C]:=by
   unfold Builtin.append_;rw[Pe ht,Pe hu,m,i];rfl
  exact fP (by grind)
 case copy=>
  obtain⟨t,ht,h1⟩:=ai.1 h;obtain⟨d,A,F⟩:=ai.1 h1;obtain⟨x,f,k⟩:=ai.1 F;rw[bz] at ht A f;obtain⟨K,m,n⟩:=zd g l A;obtain⟨C,i,j⟩:=zd g l f;exact ef.res (Ly (ty:=o.type) G k n j p (Pe ht) m i) λB O e=>by rw[q];exact fP e
 case len=>
  obtain⟨t,ht,h1⟩:=ai.1 h;obtain⟨x,f,k⟩:=ai.1 h1;rw[bz] at ht f;obtain⟨C,i,j⟩:=zd g l f;obtain⟨r,rfl⟩:=dq k;obtain⟨B,y,z⟩:=Pd (P:=P) (w:=w) (ty:=o.type) r j c.argTypes (c.args.map a.eval) (Pe ht) i;exact ef.pure p (by rw[q];exact fP y) z
 case min=>
  obtain⟨x,f,k⟩:=ai.1 h;rw[bz] at f;obtain⟨r,rfl⟩:=dq k;obtain⟨B,y,z⟩:=WD (P:=P) (ts:=c.argTypes) (ty:=o.type) r f (pj g l);exact ef.pure p (by rw[q];exact fP (y w)) z
 case max=>
  obtain⟨x,f,k⟩:=ai.1 h;rw[bz] at f;obtain⟨r,rfl⟩:=dq k;obtain⟨B,y,z⟩:=WE (P:=P) (ts:=c.argTypes) (ty:=o.type) r f (pj g l);exact ef.pure p (by rw[q];exact fP (y w)) z
 case clear=>
  obtain⟨t,ht,h1⟩:=ai.1 h;obtain⟨x,f,k⟩:=ai.1 h1;rw[bz] at ht f;obtain⟨C,i,j⟩:=zd g l f;exact ef.res (CM (ty:=o.type) G k j p (Pe ht) i) λB O e=>by rw[q];exact fP e
def sH (P:Program):Prop:=∀(f:FuncId) (fn:Func),P.funcs[f]?=some fn->(fn.name== "runtime.NumGoroutine" &&fn.body.isSome)=false
theorem uQ (h:(vD D v).H Y) (a:VR M v c):c=.bool Y:=by
 cases a<;>simp only[vD] at h<;>(try exact h.elim)
 all_goals grind [uK,au]
theorem FJ (hD:aY D) {mu:Bool} {ex:tr D.E} {o:Oper} {v:AV D.E} (N_:sH P) (hex:sG P D ex) (h:(OF P D cd mu o.op ex s φ).H (v,s')) (hS:dQ M s.h.get w) (hf:FR M φ a N) (hfr:bT M s.nx s'.nx):ef P o a s M w v s':=by
 cases ho:o.op<;>rw[ho] at h<;>simp only[OF] at h<;>(try exact h.elim)
 case move x=>
  obtain⟨h1,rfl⟩:=dq h;exact ef.pure hS (by unfold execOp;rw[ho];rfl) (dx h1 hf)
 case assign x=>
  obtain⟨h1,rfl⟩:=dq h;exact ef.pure hS (by unfold execOp;rw[ho];rfl) (dx h1 hf)
 case pick c x y=>
  obtain⟨vc,hc,h1⟩:=ai.1 h;obtain⟨vx,hx,h2⟩:=ai.1 h1;obtain⟨vy,hy,h3⟩:=ai.1 h2;obtain⟨h4,rfl⟩:=dq h3;obtain⟨t,ht,h5⟩:=ai.1 h4;have et:=uQ ht (dx hc hf);rcases gA.1 h5 with⟨rfl,h6⟩ | ⟨rfl,h6⟩
  ·cases au.1 h6;exact ef.pure hS (by grind [execOp,Go.asBool,Sem.run_pure]) (dx hx hf)
  ·cases au.1 h6;exact ef.pure hS (by grind [execOp,Go.asBool,Sem.run_pure]) (dx hy hf)
 case alloc e=>
  obtain⟨z,hz,h1⟩:=ai.1 h;obtain⟨it,z',hit,hzz,hzv⟩:=lT hz;refine ef.res (y7 (P:=P) (C:=z'.cells) h1 hS hfr (eO (hzv M))) λv' w' e1=>?_
  unfold execOp;rw[ho];refine fP ?_;unfold Instr.alloc newVar;simp only[Zzd,rf hit hzz,Zzb];exact e1
 case box e x=>
  obtain⟨u,hu,h1⟩:=ai.1 h;refine ef.res (y7 (P:=P) (C:=(a.eval x).cells) h1 hS hfr (eO (dx hu hf))) λv' w' e1=>?_
  unfold execOp;rw[ho];exact fP e1
 case build t parts=>
  obtain⟨h1,rfl⟩:=dq h;obtain⟨v',h2,h3⟩:=CK h1 hf;exact ef.pure hS (by unfold execOp;rw[ho];exact fP (h2 w)) h3
 case buildSlice t len parts=>
  exact ef.res (yk hD h hf hS hfr) λv' w' e1=>by unfold execOp;rw[ho];exact fP e1
 case load t x=>
  obtain⟨u,hu,h1⟩:=ai.1 h;obtain⟨h3,rfl⟩:=dq h1;obtain⟨v',ad,e1,h4,_,h5⟩:=y0 (P:=P) hD h3 (dx hu hf) hS;exact ef.pure hS (by unfold execOp;rw[ho];exact fP h4) h5
 case store t x y=>
  obtain⟨vx,hx,h1⟩:=ai.1 h;obtain⟨vy,hy,h2⟩:=ai.1 h1;obtain⟨h3,rfl⟩:=Qcc h2;exact ef.skip (CG hD h3 (dx hx hf) (dx hy hf) hS) λw' e1=>by unfold execOp;rw[ho];exact QeW e1
 case nilCheck x=>
  obtain⟨u,hu,h1⟩:=ai.1 h;obtain⟨h2,rfl⟩:=dq h1;obtain⟨h3,rfl⟩:=LD (P:=P) h2 (dx hu hf) w;grind [ef.pure,execOp,dx]
 case binOp op t x y yt=>
  obtain⟨vx,hx,h1⟩:=ai.1 h;obtain⟨vy,hy,h2⟩:=ai.1 h1;obtain⟨h3,rfl⟩:=dq h2;obtain⟨v',h4,h5⟩:=Pb h3 (dx hx hf) (dx hy hf) w;exact ef.pure hS (by unfold execOp;rw[ho];exact fP h4) h5
 case unOp op t x=>
  obtain⟨vx,hx,h1⟩:=ai.1 h;obtain⟨h3,rfl⟩:=dq h1;obtain⟨v',h4,h5⟩:=WC (P:=P) h3 (dx hx hf);exact ef.pure hS (by unfold execOp;rw[ho];exact fP (h4 w)) h5
 case convert src dst x=>
  obtain⟨vx,hx,h1⟩:=ai.1 h;exact ef.res (FE hD h1 (dx hx hf) hS hfr) λv' w' e1=>by unfold execOp;rw[ho];exact fP e1
 case makeInterface t x=>
  obtain⟨vx,hx,h1⟩:=ai.1 h;obtain⟨h3,rfl⟩:=dq h1;obtain⟨v',h4,h5⟩:=CQ h3 (dx hx hf);exact ef.pure hS (by unfold execOp;rw[ho];exact fP (h4 w)) h5
 case makeFunc fn first captured=>
  obtain⟨vf,h1,h2⟩:=ai.1 h;obtain⟨vc,h3,h4⟩:=ai.1 h2;cases au.1 h4;have l1:=pj h1 hf;have l2:=pj h3 hf;exact ef.pure hS (by unfold execOp;rw[ho];exact fP rfl) (.func fn l1.1 l1.2 l2.1 l2.2)
 case makeSlice t l c=>
  obtain⟨vl,hl,h1⟩:=ai.1 h;obtain⟨vc,hc,h2⟩:=ai.1 h1;exact ef.res (A7 hD h2 (dx hl hf) (dx hc hf) hS hfr) λv' w' e1=>by unfold execOp;rw[ho];exact fP e1
 case slice t x lo hi mx=>
  obtain⟨vx,hx,h1⟩:=ai.1 h;obtain⟨vl,hl,h2⟩:=ai.1 h1;obtain⟨vh,hh,h3⟩:=ai.1 h2;obtain⟨vm,hm,h4⟩:=ai.1 h3;obtain⟨h5,rfl⟩:=dq h4;obtain⟨v',h6,h7⟩:=FF hD h5 (dx hx hf) (.map hl hf) (.map hh hf) (.map hm hf);exact ef.pure hS (by unfold execOp;rw[ho];exact fP (h6 w)) h7
 case fieldAddr t x f=>
  obtain⟨vx,hx,h1⟩:=ai.1 h;obtain⟨h3,rfl⟩:=dq h1;obtain⟨v',h4,h5⟩:=ue h3 (dx hx hf);exact ef.pure hS (by unfold execOp;rw[ho];exact fP (h4 w)) h5
 case field t x f=>
  obtain⟨vx,hx,h1⟩:=ai.1 h;obtain⟨h3,rfl⟩:=dq h1;obtain⟨v',h4,h5⟩:=CO h3 (dx hx hf);exact ef.pure hS (by unfold execOp;rw[ho];exact fP (h4 w)) h5
 case indexAddr t x i=>
  obtain⟨vx,hx,h1⟩:=ai.1 h;obtain⟨vi,hi,h2⟩:=ai.1 h1;obtain⟨h3,rfl⟩:=dq h2;obtain⟨v',h4,h5⟩:=yl h3 (dx hx hf) (dx hi hf);exact ef.pure hS (by unfold execOp;rw[ho];exact fP (h4 w)) h5
 case index t x i=>
  obtain⟨vx,hx,h1⟩:=ai.1 h;obtain⟨vi,hi,h2⟩:=ai.1 h1;obtain⟨h3,rfl⟩:=dq h2;obtain⟨v',h4,h5⟩:=CP h3 (dx hx hf) (dx hi hf);exact ef.pure hS (by unfold execOp;rw[ho];exact fP (h4 w)) h5
 case extract x i=>
  obtain⟨vx,hx,h1⟩:=ai.1 h;obtain⟨h3,rfl⟩:=dq h1;obtain⟨v',h4,h5⟩:=ym (P:=P) h3 (dx hx hf);exact ef.pure hS (by unfold execOp;rw[ho];exact fP (h4 w)) h5
 case call c=>
  cases hc:c.callee with
  | builtin b=>
   rw[hc] at h;obtain⟨vs,hvs,h1⟩:=ai.1 (show(az (Ot P D φ c.args.toList) λvs=>jW P D cd mu b s c.argTypes.toList vs).H (v,s') from h);grind [A']
  | invoke r m=>rw[hc] at h;exact(h:False).elim
  | value x=>
   rw[hc] at h;obtain⟨f,args,h1,h2⟩:=bk.1 (show(aL (ϲ P D φ x c) λf args=>ex f args s).H (v,s') from h);obtain⟨u,hu,h3⟩:=ai.1 h1;obtain⟨f',p,hfn,h4⟩:=bk.1 h3;obtain⟨Qug,has,h5⟩:=ai.1 h4;obtain⟨fs,cs⟩:=p;have h5:=au.1 h5;simp only[Zbx] at h5;obtain⟨rfl,rfl⟩:=h5;rw[fi,fi] at h2;have hv:=dx hu hf;have hfun:∃(F C:Array Value),a.eval x=.func (.func f') F C/\LR M fs F.toList/\LR M cs C.toList:=by
    generalize a.eval x=xv at hv;cases hv<;>simp only[QeI] at hfn<;>(try exact hfn.elim)
    rename_i fn _ _ _ _ g1 g2 g3 g4
    cases fn<;>simp only at hfn<;>(try exact hfn.elim);have hfn:=au.1 hfn;simp only[Zbx] at hfn;obtain⟨rfl,rfl,rfl⟩:=hfn;exact⟨_,_,rfl,⟨g1,g2⟩,⟨g3,g4⟩⟩
   obtain⟨F,C,e1,l1,l2⟩:=hfun
   have hl:LR M (fs++(Qug++cs)) (F++c.args.map a.eval++C).toList:=by
    rw[Array.toList_append,Array.toList_append,ZaD];exact l1.app ((pj has hf).app l2)
   obtain⟨_,⟨fn,body,g1,g2⟩,hcall⟩:=hex f' _ s v s' h2;have hcall:=hcall M _ w hl hS hfr;have hn:(fn.name== "runtime.NumGoroutine")=false:=by
    have:=N_ f' fn g1;grind
   have hrun:(execOp a.eval o).run P w=.ok (.enter f' (F++c.args.map a.eval++C)) w:=by
    unfold execOp;rw[ho];simp only[resolve,hc,e1,Deferred.ofValue,Zzd,Zzc,Zzb,invoke,callFunc,program,Sem.run,g1,hn,ZaE,Za0,g2,Option.isNone_some]
   exact .inr ⟨f',_,hrun,hcall⟩
end
section
variable {P:Program} {D:Data} {cd:TypeId->Option Nat} {M M':Pm D} {φ φ':T (AV D.E)} {a:Act} {N:Nat} {w:World} {s s':St D.E}
variable {v:AV D.E} {b:Bool} {c:Value} {d:Option Tmp} {Z:Array Oper} {Y:tr D.E}
theorem vV (a:Act) (d:Option Tmp) (v:Value) (t:Tmp) (h:∀x,d=some x->x<a.tmps.size):(a.put d v).tmps.getD t Go.undef=if d=some t then v else a.tmps.getD t Go.undef:=by
 cases d with
 | none=>rw[Zaa (by simp)];rfl
 | some x=>
  show(a.tmps.setIfInBounds x v).getD t Go.undef=_
  rw[ZaT,ZaT];grind
theorem ze (h:(vH D N φ d v).H φ'):(∀x,d=some x->x<N)/\∀t,φ'.get t=if d=some t then some v else φ.get t:=by
 cases d with
 | none=>cases au.1 (show(C.ret φ).H φ' from h);exact⟨λx b=>(nomatch b),λt=>by simp⟩
 | some x=>
  obtain⟨h1,a⟩:=bw.1 (show(bB (Nat.ble (x+1) N) (cN (φ.put x (some v)))).H φ' from h);rw[bz] at a;refine⟨λy c=>by grind [cm],λt=>?_⟩;rw[T.dO _ _ _ _ a t];grind
def size_put (a:Act) (d:Option Tmp) (v:Value):(a.put d v).tmps.size=a.tmps.size:=by cases d<;>simp[Act.put]
def vW (a:Act) (d:Option Tmp) (v:Value):(a.put d v).defers=a.defers:=by cases d<;>rfl
theorem Jf (h:(vH D N φ d v).H φ') (b:FR M φ a N) (i:VR M v c):FR M φ' (a.put d c) N:=by
 obtain⟨h1,f⟩:=ze h;refine⟨λt u hu=>?_,by rw[size_put,b.size],by rw[vW,b.defers]⟩;rw[vV a d c t (λx g=>by rw[b.size];exact h1 x g)];rw[f] at hu;by_cases e:d=some t
 ·grind
 ·rw[Zaa e] at hu;rw[Zaa e];exact b.at_ t u hu
def vB (v:Value):Option Bool:=match v with
 | .bool b=>some b
 | _=>none
def Jg {wt:Bool} (h:(IQ D b v).H wt) (d:VR M v c):(vB c==some b)=wt:=by
 cases d<;>simp only[IQ] at h
 case bool a=>
  rcases uK.1 h with⟨rfl,h1⟩ | ⟨rfl,h1⟩<;>cases au.1 h1<;>cases b<;>rfl
 case lit a=>
  have h:=au.1 h;cases a<;>cases b<;>cases wt<;>first | rfl | cases h
 all_goals assumption
theorem pk {o:Oper} (h:(lO D Z.toList φ o).H b) (m:FR M φ a N):Region.wanted o (yielded Z a.tmps)=b:=by
 unfold lO at h;unfold Region.wanted;cases d:o.guard with
 | none=>rw[d] at h;exact au.1 h
 | some p=>
  rw[d] at h;obtain⟨j,wt⟩:=p;show(yielded Z a.tmps j==some wt)=b
  obtain⟨v,n,e⟩:=ai.1 (show(az (cN (yA D Z.toList φ j)) λv=>IQ D wt v).H b from h);obtain⟨q,h1,g⟩:=aE.1 (show oB (gn Z.toList j) (λo=>oB o.dst λt=>φ.get t)=some v from bz.1 n);obtain⟨t,i,k⟩:=aE.1 g;rw[eI,ZaL] at h1;have c:=m.at_ t v k;rw[ZaT] at c;unfold yielded;rw[h1,ZcE,i,ZcE];cases f:a.tmps[t]? with
  | none=>rw[f] at c;exact Jg e c
  | some u=>
   rw[f] at c;have l:=Jg e (show VR M v u from c);cases u<;>exact l
def Pf {e:AV D.E} (h:(settle D v).H e):∀a b,VR a v b->VR a e b:=by
 intro a b d;cases v<;>simp only[settle] at h<;>try (cases au.1 h;exact d)
 rcases uK.1 h with⟨c,h1⟩ | ⟨c,h1⟩<;>subst c<;>cases au.1 h1<;>cases d
 ·exact .lit true
 ·exact .lit false
def Qcd (h:VR M v c):VR M (clo D v) c:=by
 have e:∀k n,Option.rec (motive:=λ_=>AV D.E) (.num k n) (λx=>vA x) (Fb k n)=AV.num k n:=λk n=>by
  cases q:Fb k n with
  | none=>rfl
  | some x=>rw[fO.1 q];rfl
 cases v<;>first | exact h | (cases h;rename_i b;cases b<;>exact .lit _) | (cases h;rename_i q;show VR M (Option.rec (motive:=λ_=>AV D.E) _ _ _) _;rw[e];exact .num q)
theorem A_ (e:aY D) {g:Bool} {o:Oper} (c:sH P) (hex:sG P D Y) (h:(IS P D cd b g o.op Y s φ).H (v,s')) (f:dQ M s.h.get w) (i:FR M φ a N) (mu:bT M s.nx s'.nx):ef P o a s M w v s':=by
 unfold IS at h;cases hk:Fl cd with
 | true=>
  rw[hk] at h;obtain⟨n,m,h1,d⟩:=bk.1 (show(aL (knw (OF P D cd b o.op Y s φ)) λv s=>.ret (clo D v,s)).H (v,s') from h);cases au.1 d;exact(FJ e c hex (ϸ h1) f i mu).same λp q l=>Qcd l
 | false=>
 rw[hk] at h;cases g with
 | false=>exact FJ e c hex h f i mu
 | true=>
  obtain⟨n,m,h1,d⟩:=bk.1 (show(aL (OF P D cd b o.op Y s φ) λv s=>az (settle D v) λv=>.ret (v,s)).H (v,s') from h);obtain⟨r,j,k⟩:=ai.1 d;cases au.1 k;exact(FJ e c hex h1 f i mu).same (Pf j)
theorem po (F:aY D) (m:sH P) (hex:sG P D Y):∀(l:List Oper) (i:Nat) (s:St D.E) (φ:T (AV D.E)) (e:St D.E) (c:T (AV D.E)),(qj P D cd b Y Z.toList N l i s φ).H (e,c)->s.nx<=e.nx/\
  ∀(M:Pm D) (a:Act) (w:World),dQ M s.h.get w->FR M φ a N->bT M s.nx e.nx->∀Q:Exit->Act->World->Prop,
   (∀x y z,cP s.h.get M w e.h.get x z s.nx e.nx->FR x c y N->Q .normal y z)->wpList P Z Q l a w
 | [],i,s,φ,e,c,h=>by
  cases au.1 (show(C.ret (s,φ)).H (e,c) from h);exact⟨Zah _,λM a w r k _ Q q=>q M a w (.refl r _) k⟩
 | o::l,i,s,φ,e,c,h=>by
  obtain⟨mu,hw,h0⟩:=ai.1 (show(az (lO D Z.toList φ o) λmu=>bE mu
   (aL (IS P D cd b (guards Z.toList i) o.op Y s φ) λv n=>az (vH D N φ o.dst v) λφ=>bB (Nat.ble s.nx n.nx) (qj P D cd b Y Z.toList N l (Nat.succ i) n φ))
   (az (vH D N φ o.dst undef) λφ=>qj P D cd b Y Z.toList N l (Nat.succ i) s φ)).H (e,c) from h)
  rcases gA.1 h0 with⟨rfl,h1⟩ | ⟨rfl,h1⟩
  ·obtain⟨v,n,U,V⟩:=bk.1 h1;obtain⟨p,A,B⟩:=ai.1 V;obtain⟨W,X⟩:=bw.1 B;have S:s.nx<=n.nx:=cm.1 W;obtain⟨j,d⟩:=po F m hex l _ n p e c X;refine⟨ω,λM a w r k f Q q=>?_⟩;have t:bT M s.nx n.nx:=λmu O R=>f mu O ω
   have K:=A_ (o:=o) F m hex U r k t;unfold wpList;rw[Zac (pk hw k)];refine .inl (K.wp rfl _ _ λL v' ops ex g=>?_);have G:=g.Le t;have I:bT L n.nx e.nx:=λmu O R=>by rw[g.ext mu ω];exact f mu ω R
   refine d L _ ops g.fq (Jf A (k.mono G) ex) I Q λx y z u J=>q x y z (g.trans u) J
  ·obtain⟨p,A,B⟩:=ai.1 h1;obtain⟨j,d⟩:=po F m hex l _ s p e c B;refine⟨j,λM a w r k f Q q=>?_⟩;unfold wpList;rw[Zaa (by grind [pk])];exact d M _ w r (Jf A k .undef) f Q q
end
variable {Z:List Nat}
def Qce (m i:Nat):Nat.beq (Nat.mod (Nat.div m (Nat.pow 2 i)) 2) 1=m.testBit i:=by
 rw[Nat.testBit_eq_decide_div_mod_eq,ZaG,aM,ZbP];exact ZbW
theorem rv {i j m:Nat} (h:Z[j]?=some m):jE Z i j=m.testBit i:=by
 unfold jE;rw[eI,h];exact Qce m i
theorem CR {i j:Nat} (h:Z[j]?=none):jE Z i j=false:=by
 unfold jE;rw[eI,h]
theorem ov:∀{es:List Edge} {ms:List Nat} {m0 m:Nat},vE ms es m0=some m->
  (∀e∈es,Region.binds .any e->e.on<ms.length)/\∀i,m.testBit i↔(m0.testBit i\/∃e∈es,Region.binds .any e/\(e.on=i\/jE ms i e.on))
 | [],ms,m0,m,h=>by cases(show some m0=some m from h);simp
 | e::es,ms,m0,m,h=>by
  rcases A1.1 (show oE (Region.binds .any e) (oB (gn ms e.on) λk=>vE ms es (Nat.lor (Nat.lor m0 (Nat.pow 2 e.on)) k)) (vE ms es m0)=some m from h) with⟨d,h1⟩ | ⟨d,h1⟩
  ·obtain⟨k,hk,c⟩:=aE.1 h1;rw[eI] at hk;obtain⟨q1,b⟩:=ov c;have j:e.on<ms.length:=(Zam.1 hk).1;refine⟨λl g f=>?_,λi=>?_⟩
   ·grind
   ·rw[b i];have a:(Nat.lor (Nat.lor m0 (Nat.pow 2 e.on)) k).testBit i=(m0.testBit i||decide (e.on=i)||jE ms i e.on):=by
     show((m0||| 2 ^ e.on)||| k).testBit i=_
     grind [rv]
    grind
  ·obtain⟨q1,b⟩:=ov h1;grind
structure mY (L:List Oper) (ms:List Nat):Prop where
 len:ms.length=L.length
 Qcf:∀(j:Nat) (o:Oper) (e:Edge),L[j]?=some o->e∈o.after.toList->Region.binds .any e=true->e.on<j/\jE ms e.on j=true/\∀i,jE ms i e.on=true->jE ms i j=true
 back:∀i j,jE ms i j=true->∃(o:Oper) (e:Edge),L[j]?=some o/\e∈o.after.toList/\Region.binds .any e=true/\e.on<j/\(e.on=i\/jE ms i e.on=true)
variable {Z:List Nat} {L:List Oper}
theorem rz {m i j:Nat} (h:j<Z.length):jE (Z++[m]) i j=jE Z i j:=by
 have h1:Z[j]?=some Z[j]:=Zaf h;rw[rv h1,rv (by rw[Zat h];exact h1)]
theorem vX:∀{os pre:List Oper} {ms g:List Nat},IN os ms=some g->mY pre ms->mY (pre++os) g
 | [],pre,ms,g,h,l=>by cases(show some ms=some g from h);rw[Zaw];exact l
 | o::os,pre,ms,g,h,l=>by
  obtain⟨m,v,h1⟩:=aE.1 (show oB (vE ms o.after.toList 0) (λm=>IN os (mN ms [m]))=some g from h);rw[fi] at h1;obtain⟨q1,w⟩:=ov v;have q:∀i,jE (ms++[m]) i ms.length↔∃e∈o.after.toList,Region.binds .any e/\(e.on=i\/jE ms i e.on):=λi=>by
   rw[rv (m:=m) (by simp),w i];simp
  have hlen:=l.len;have key:mY (pre++[o]) (ms++[m]):=by
   refine⟨by grind,λj s e r u t=>?_,λi j k=>?_⟩
   ·by_cases p:j<pre.length
    ·rw[Zat p] at r;obtain⟨a,b,c⟩:=l.Qcf j s e r u t;grind [rz]
    ·have n:j=pre.length:=by
      grind
     grind [rz]
   ·by_cases p:j<pre.length
    ·rw[rz ω] at k;obtain⟨s,e,a,b,c,d,f⟩:=l.back i j k;grind [rz]
    ·by_cases n:j=ms.length
     ·grind [rz]
     ·grind [CR]
  have:=vX (pre:=pre++[o]) h1 key;grind
theorem Pg (h:IN L []=some Z):mY L Z:=by
 have:=vX (pre:=[]) h ⟨rfl,λj o e b=>by grind,λi j a=>by grind [CR]⟩;assumption
theorem mY.lt (h:mY L Z):∀{j i:Nat},jE Z i j->i<j:=by
 intro j
 induction j using Nat.strongRecOn with
 | _ j d=>
  intro i a;obtain⟨o,e,_,_,_,b,c⟩:=h.back i j a;grind
theorem mY.trans (h:mY L Z):∀{j k i:Nat},jE Z i k->jE Z k j->jE Z i j:=by
 intro j
 induction j using Nat.strongRecOn with
 | _ j n=>
  intro k i d a;obtain⟨o,e,g,c,b,f,m⟩:=h.back k j a;obtain⟨_,_,l⟩:=h.Qcf j o e g c b;grind
theorem vY {α:Type} {f:Nat->α->Bool}:∀{l:List α} {i:Nat},IP f l i->∀j x,l[j]?=some x->f (i+j) x
 | [],i,h,j,x,d=>by grind
 | a::l,i,h,j,x,d=>by
  have b:Bool.rec (motive:=λ_=>Bool) false (IP f l (i+1)) (f i a):=h;cases c:f i a with
  | false=>rw[c] at b;cases b
  | true=>
   rw[c] at b;cases j with
   | zero=>simp at d;subst d;exact c
   | succ j=>
    have:=vY (f:=f) b j x (by assumption);grind
theorem vZ {α:Type} {f:α->Bool}:∀{l:List α},AK f l↔∃x∈l,f x
 | []=>by simp[AK]
 | a::l=>by
  show Bool.rec (motive:=λ_=>Bool) (AK f l) true (f a)↔_
  have:=vZ (f:=f) (l:=l);cases h:f a<;>simp[h,this]
def Reads (L:List Oper) (o:Oper) (t:Tmp):Prop:=some t∈o_ L o
theorem zf {o:Oper} {t:Tmp}:Reads L o t↔reads L o t:=by
 unfold Reads o_ reads;rw[pb,Zbf,ZcL];have h1:(AK (AQ t) o.op.operands.toList)↔∃x∈o.op.operands.toList,OJ x=some t:=by
  rw[vZ];constructor
  ·rintro⟨x,a,h⟩;refine⟨x,a,?_⟩;cases x<;>simp only[AQ] at h<;>(try cases h);rw[aM.1 h];rfl
  ·rintro⟨x,a,h⟩;refine⟨x,a,?_⟩;cases x<;>simp only[OJ] at h<;>cases h;exact ZdY _
 rw[<-h1];generalize AK (AQ t) o.op.operands.toList=b;cases AR L o with
 | none=>cases b<;>simp
 | some g=>
  grind [aM]
structure v8 (P:Program) (L:List Oper) (ms:List Nat):Prop extends mY L ms where
 rd:∀(i j:Nat) (oi oj:Oper) (d:Tmp),L[i]?=some oi->L[j]?=some oj->i≠j->oj.dst=some d->Reads L oi d->jE ms i j=true\/jE ms j i=true
 wr:∀(i j:Nat) (oi oj:Oper) (d:Tmp),L[i]?=some oi->L[j]?=some oj->i≠j->oj.dst=some d->oi.dst≠some d
 eff:∀(i j:Nat) (oi oj:Oper),L[i]?=some oi->L[j]?=some oj->i≠j->hV P oi=3->hV P oj=3->jE ms i j=true\/jE ms j i=true
 qS:∀(i:Nat) (oi:Oper),L[i]?=some oi->∀cs b,oi.op≠.select cs b
 gd:∀(i:Nat) (oi:Oper) (g:Nat) (b:Bool),L[i]?=some oi->oi.guard=some (g,b)->jE ms g i=true
theorem yn {P:Program} {L:List Oper} {ms:List Nat} (h:Cv P L=some ms):v8 P L ms:=by
 obtain⟨u,t,h1⟩:=aE.1 h;obtain⟨v,s⟩:=kV.1 h1;cases s;have o:=Pg t;have hi:∀i a,L[i]?=some a->OH a/\AS ms i a/\∀j c,L[j]?=some c->OG P L ms i j a c:=λi a k=>by
  grind [vY]
 have p:∀i j a c,L[i]?=some a->L[j]?=some c->i≠j->(∀d,c.dst=some d->(ordered ms i j\/reads L a d=false)/\a.dst≠some d)/\((hV P a=3/\hV P c=3)->ordered ms i j):=by
  intro i j a c k l f;rcases or2 ((hi i a k).2.2 j c l) with m | m
  ·simp_all
  ·obtain⟨r,w⟩:=lD m;refine⟨λd n=>?_,λ⟨q,e2⟩=>?_⟩
   ·rw[n] at r;obtain⟨x,y⟩:=lD r;refine⟨?_,λe=>?_⟩
    ·grind
    ·simp_all
   ·simp_all
 refine⟨o,λi j a c d k l f n A=>?_,λi j a c d k l f n=>((p i j a c k l f).1 d n).2,λi j a c k l f q e2=>or2 ((p i j a c k l f).2 ⟨q,e2⟩),λi a k cs b e=>?_,λi a g b k z=>?_⟩
 ·rcases((p i j a c k l f).1 d n).1 with m | m
  ·exact or2 m
  ·grind [zf]
 ·grind [OH]
 ·have:=(hi i a k).2.1;unfold AS at this;simp_all
section
variable {P:Program} {D:Data} {cd:TypeId->Option Nat} {mu:Bool} {ex:tr D.E} {L:List Oper} {N:Nat} {ms:List Nat}
theorem mZ {φ:T (AV D.E)}:∀{c:List (Option Tmp)} {b a:T (AV D.E)},(yU D φ c b).H a->∀t,a.get t=if some t∈c/\φ.get t≠none then φ.get t else b.get t
 | [],b,a,h,t=>by cases au.1 (show(C.ret b).H a from h);simp
 | none::c,b,a,h,t=>by
  rw[mZ (show(yU D φ c b).H a from h) t];simp
 | some x::c,b,a,h,t=>by
  have d:(Option.rec (motive:=λ_=>C (T (AV D.E))) (yU D φ c b) (λv=>az (cN (b.put x (some v))) λb=>yU D φ c b) (φ.get x):C (T (AV D.E))).H a:=h;cases e:φ.get x with
  | none=>
   rw[e] at d;rw[mZ d t];grind
  | some v=>
   rw[e] at d;obtain⟨g,h1,f⟩:=ai.1 d;rw[bz] at h1;rw[mZ f t,T.dO _ _ _ _ h1 t];grind
def PHI (L:List Oper) (a:T (AV D.E)) (rs:List (Rc D)) (φ:T (AV D.E)):Prop:=
 (∀(j:Nat) (r:Rc D) (o:Oper) (d:Tmp),rs[j]?=some r->L[j]?=some o->o.dst=some d->φ.get d=some r.v)/\∀t,(∀(j:Nat) (r:Rc D) (o:Oper),rs[j]?=some r->L[j]?=some o->o.dst≠some t)->φ.get t=a.get t
def fB (es:List Nat) (k:Nat):Nat:=match k with
 | 0=>0
 | k+1=>es.getD k 0+1
structure Ph (P:Program) (D:Data) (cd:TypeId->Option Nat) (mu:Bool) (ex:tr D.E) (L:List Oper) (ms:List Nat) (φ0:T (AV D.E)) (rs:List (Rc D)) (hs:List (T (AO D.E))) (es:List Nat) (i:Nat) (o:Oper) (r:Rc D):Prop where
 op:r.o=o
 le:r.lo<=r.hi
 fr:∃φ,PHI L φ0 (rs.take i) φ/\∀t,(Reads L o t->r.φ.get t=φ.get t)/\(¬Reads L o t->r.φ.get t=none)
 kind:(r.cls=0/\(lO D L r.φ o).H false/\r.v=undef/\r.hi=r.lo)\/
  (r.cls=1/\(lO D L r.φ o).H true/\hV P o=1/\(IS P D cd mu r.g o.op V7 ⟨.nil,r.lo⟩ r.φ).H (r.v,⟨r.pc,r.hi⟩)/\r.hi<=r.lo+1)\/
  (r.cls=2/\(lO D L r.φ o).H true/\hV P o=2/\r.hi=r.lo)\/
  (r.cls=3/\(lO D L r.φ o).H true/\hV P o=3/\∃(k:Nat) (h h' K:T (AO D.E)) (last:Nat),es[k]?=some i/\hs[k]?=some h/\hs[k+1]?=some h'/\last=fB es k/\
   (j9 D (λj=>Bool.and (jE ms j i) (b6 ms last j)) (rs.take i) 0 h).H K/\(IS P D cd mu r.g o.op ex ⟨K,r.lo⟩ r.φ).H (r.v,⟨h',r.hi⟩))
structure ow (P:Program) (D:Data) (cd:TypeId->Option Nat) (mu:Bool) (ex:tr D.E) (L:List Oper) (N:Nat) (ms:List Nat) (φ0:T (AV D.E)) (s:St D.E) (i:Nat) (d:Ds D):Prop where
 len:d.rs.length=i
 phi:PHI L φ0 d.rs d.φ
 rc:∀(j:Nat) (o:Oper) (r:Rc D),L[j]?=some o->d.rs[j]?=some r->Ph P D cd mu ex L ms φ0 d.rs d.hs d.es j o r
 qo:d.hs.length=d.es.length+1
 aX:d.hs[d.es.length]?=some d.h
 h0:d.hs[0]?=some s.h
 last:d.last=fB d.es d.es.length
 esr:∀(k e:Nat),d.es[k]?=some e->e<i/\∃r,d.rs[e]?=some r/\r.cls=3
 ese:∀(e:Nat) (r:Rc D),d.rs[e]?=some r->r.cls=3->∃k:Nat,d.es[k]?=some e
 inc:∀k l e f:Nat,k<l->d.es[k]?=some e->d.es[l]?=some f->e<f
 ox:s.nx<=d.nx/\∀(j:Nat) (r:Rc D),d.rs[j]?=some r->s.nx<=r.lo/\r.hi<=d.nx
 apart:∀(j k:Nat) (r q:Rc D),j<k->d.rs[j]?=some r->d.rs[k]?=some q->r.hi<=q.lo
 dst:∀(j:Nat) (o:Oper) (d':Tmp),j<i->L[j]?=some o->o.dst=some d'->d'<N
variable {i:Nat} {U:T (AV D.E)} {o:Oper} {s:St D.E} {A:List (T (AO D.E))} {y:List Nat}
theorem Ph.grow {rs e:List (Rc D)} {d:List (T (AO D.E))} {c:List Nat} {r:Rc D} (h:Ph P D cd mu ex L ms U rs A y i o r) (h1:e.take i=rs.take i) (g:∀(k:Nat) (x:T (AO D.E)),A[k]?=some x->d[k]?=some x) (p:∀(k x:Nat),y[k]?=some x->c[k]?=some x):Ph P D cd mu ex L ms U e d c i o r:=by
 refine⟨h.op,h.le,by rw[h1];exact h.fr,?_⟩;rcases h.kind with k | k | k | ⟨k1,k2,k3,k,a,b,K,last,j,e2,l,m,q,n⟩
 ·grind
 ·grind
 ·grind
 ·refine .inr (.inr (.inr ⟨k1,k2,k3,k,a,b,K,last,p _ _ j,g _ _ e2,g _ _ l,?_,by grind,n⟩));cases k with
  | zero=>exact m
  | succ k=>
   grind [fB]
theorem fQ {α:Type} {l:List α} {a:α} {x:α} (h:(l++[a])[i]?=some x):(l[i]?=some x)\/(i=l.length/\x=a):=by
 grind
theorem Pj {α:Type} {l:List α} {a:α} {x:α} (h:l[i]?=some x):(l++[a])[i]?=some x:=by
 grind
theorem ow.step {d:Ds D} {r:Rc D} {S C:T (AV D.E)} (a:ow P D cd mu ex L N ms U s i d) (hL:v8 P L ms) (ho:L[i]?=some o) (hψ:(yU D d.φ (o_ L o) .nil).H C)
  (hφ:(vH D N d.φ o.dst r.v).H S) (hr1:r.o=o) (R:r.φ=C) (hr3:r.lo=d.nx) (hr4:r.lo<=r.hi) {M:T (AO D.E)} {m:Nat}
  (G:(r.cls≠3/\M=d.h/\A=d.hs/\y=d.es/\m=d.last)\/(r.cls=3/\A=d.hs++[M]/\y=d.es++[i]/\m=i+1))
  (kind:(r.cls=0/\(lO D L C o).H false/\r.v=undef/\r.hi=r.lo)\/
   (r.cls=1/\(lO D L C o).H true/\hV P o=1/\(IS P D cd mu r.g o.op V7 ⟨.nil,r.lo⟩ C).H (r.v,⟨r.pc,r.hi⟩)/\r.hi<=r.lo+1)\/
   (r.cls=2/\(lO D L C o).H true/\hV P o=2/\r.hi=r.lo)\/
   (r.cls=3/\(lO D L C o).H true/\hV P o=3/\∃K,(j9 D (λj=>Bool.and (jE ms j i) (b6 ms d.last j)) d.rs 0 d.h).H K/\(IS P D cd mu r.g o.op ex ⟨K,r.lo⟩ C).H (r.v,⟨M,r.hi⟩))):
  ow P D cd mu ex L N ms U s (i+1) ⟨S,M,A,r.hi,m,y,d.rs++[r]⟩:=by
 obtain⟨p1,p2⟩:=ze hφ;have hlen:=a.len;have J:∀(k:Nat) (x:T (AO D.E)),d.hs[k]?=some x->A[k]?=some x:=λk x hx=>by
  grind
 have Z:∀(k x:Nat),d.es[k]?=some x->y[k]?=some x:=λk x hx=>by
  grind
 have u:∀j,j<=i->(d.rs++[r]).take j=d.rs.take j:=λj O=>by grind
 have htl:d.rs.take i=d.rs:=ZaA ω;refine⟨by grind,⟨λj q B V c b z=>?_,λt ht=>?_⟩,λj B q b c=>?_,?_,?_,?_,?_,λk e n=>?_,λe q c hc=>?_,λk l e f Q n X=>?_,⟨by have:=a.ox.1;simp only;omega,λj q c=>?_⟩,λj k q p hjk c hp=>?_,λj B V O b z=>?_⟩
 ·rw[p2];rcases fQ c with c | ⟨rfl,rfl⟩
  ·have O:j<i:=by grind
   rw[Zaa (λe=>hL.wr i j o B V ho b ω z e)];exact a.phi.1 j q B V c b z
  ·grind
 ·rw[p2];rw[Zaa (ht i r o (by simp[hlen]) ho)];exact a.phi.2 t λj q B c b=>ht j q B (Pj c) b
 ·rcases fQ c with c | ⟨rfl,rfl⟩
  ·have O:j<i:=by grind
   exact(a.rc j B q b c).grow (u j ω) J Z
  ·rw[hlen] at b ⊢;rw[ho] at b;cases b;refine⟨hr1,hr4,⟨d.φ,by rw[u i (Zah _),htl];exact a.phi,λt=>?_⟩,?_⟩
   ·rw[R,mZ hψ t,T.get_nil];unfold Reads;simp_all
   ·rw[R];rcases kind with k | k | k | ⟨k1,k2,k3,K,k4,k5⟩
    ·exact .inl k
    ·grind
    ·grind
    ·rcases G with⟨e,_⟩ | ⟨_,w,e2,W⟩
     ·omega
     ·refine .inr (.inr (.inr ⟨k1,k2,k3,d.es.length,d.h,M,K,d.last,by rw[e2];simp,J _ _ a.aX,by rw[w,<-a.qo];simp,?_,by grind,k5⟩));rw[a.last];cases hk:d.es.length with
      | zero=>rfl
      | succ k=>
       grind [fB]
 ·rcases G with⟨_,_,w,e2,_⟩ | ⟨_,w,e2,_⟩
  ·rw[w,e2];exact a.qo
  ·rw[w,e2];simp[a.qo]
 ·rcases G with⟨_,Y,w,e2,_⟩ | ⟨_,w,e2,_⟩
  ·rw[w,e2,Y];exact a.aX
  ·rw[w,e2];simp[<-a.qo]
 ·exact J _ _ a.h0
 ·rcases G with⟨_,_,_,e2,W⟩ | ⟨_,_,e2,W⟩
  ·rw[e2,W];exact a.last
  ·rw[e2,W];simp[fB]
 ·rcases G with⟨_,_,_,e2,_⟩ | ⟨Y,_,e2,_⟩
  ·rw[e2] at n;obtain⟨h1,q,h2,h3⟩:=a.esr k e n;grind
  ·rw[e2] at n;rcases fQ n with n | ⟨_,rfl⟩
   ·obtain⟨h1,q,h2,h3⟩:=a.esr k e n;grind
   ·grind
 ·rcases fQ c with c | ⟨rfl,rfl⟩
  ·obtain⟨k,hk⟩:=a.ese e q c hc;grind
  ·rcases G with⟨Y,_⟩ | ⟨_,_,e2,_⟩
   ·omega
   ·exact⟨d.es.length,by grind⟩
 ·rcases G with⟨_,_,_,e2,_⟩ | ⟨_,_,e2,_⟩
  ·rw[e2] at n X;exact a.inc k l e f Q n X
  ·rw[e2] at n X;rcases fQ X with hf2 | ⟨hl,rfl⟩
   ·rcases fQ n with F | ⟨hk,rfl⟩
    ·exact a.inc k l e f Q F hf2
    ·grind
   ·rcases fQ n with F | ⟨hk,rfl⟩
    ·exact(a.esr k e F).1
    ·omega
 ·rcases fQ c with c | ⟨rfl,rfl⟩
  ·obtain⟨h1,h2⟩:=a.ox.2 j q c;grind
  ·have:=a.ox.1;grind
 ·rcases fQ hp with hp2 | ⟨hk,rfl⟩
  ·rcases fQ c with I | ⟨O,rfl⟩
   ·exact a.apart j k q p hjk I hp2
   ·grind
  ·rcases fQ c with I | ⟨O,rfl⟩
   ·have:=(a.ox.2 j q I).2;omega
   ·omega
 ·by_cases hji:j<i
  ·exact a.dst j B V hji b z
  ·grind
def FK {d G:Ds D} (q:ow P D cd mu ex L N ms U s i d) (p:v8 P L ms) (t:L[i]?=some o) (h:(AT P D cd mu ex L N ms i o d).H G):ow P D cd mu ex L N ms U s (i+1) G:=by
 obtain⟨w,a,h1⟩:=ai.1 h;obtain⟨b,hw,h0⟩:=ai.1 h1;rcases gA.1 h0 with⟨rfl,B⟩ | ⟨rfl,B⟩
 ·rcases gA.1 B with⟨I,f⟩ | ⟨I,f⟩
  ·obtain⟨v,u,c,n⟩:=bk.1 f;obtain⟨e,g,j⟩:=ai.1 n;obtain⟨k,C⟩:=bw.1 j;obtain⟨q1,J⟩:=lD k;cases au.1 C;rw[fi];exact q.step (r:=⟨o,guards L i,1,v,w,d.nx,u.nx,u.h⟩) p t a g rfl rfl rfl (cm.1 q1) (.inl ⟨by simp,rfl,rfl,rfl,rfl⟩) (.inr (.inl ⟨rfl,hw,aM.1 I,c,cm.1 J⟩))
  ·rcases gA.1 f with⟨l,c⟩ | ⟨l,c⟩
   ·obtain⟨v,n,g⟩:=ai.1 c;obtain⟨e,j,k⟩:=ai.1 g;cases au.1 k;rw[fi];exact q.step (r:=⟨o,guards L i,2,v,w,d.nx,d.nx,.nil⟩) p t a j rfl rfl rfl (Zah _) (.inl ⟨by simp,rfl,rfl,rfl,rfl⟩) (.inr (.inr (.inl ⟨rfl,hw,aM.1 l,rfl⟩)))
   ·obtain⟨F,n⟩:=bw.1 c;obtain⟨K,g,j⟩:=ai.1 n;obtain⟨v,u,k,C⟩:=bk.1 j;obtain⟨e,x,y⟩:=ai.1 C;obtain⟨z,A⟩:=bw.1 y;cases au.1 A;rw[fi,fi,fi];exact q.step (r:=⟨o,guards L i,3,v,w,d.nx,u.nx,.nil⟩) p t a x rfl rfl rfl (cm.1 z) (.inr ⟨rfl,rfl,rfl,rfl⟩) (.inr (.inr (.inr ⟨rfl,hw,aM.1 F,K,g,k⟩)))
 ·obtain⟨e,f,c⟩:=ai.1 B;cases au.1 c;rw[fi];exact q.step (r:=⟨o,guards L i,0,undef,w,d.nx,d.nx,.nil⟩) p t a f rfl rfl rfl (Zah _) (.inl ⟨by simp,rfl,rfl,rfl,rfl⟩) (.inl ⟨rfl,hw,rfl,rfl⟩)
theorem v_ (g:v8 P L ms):∀{l pre:List Oper} {d a:Ds D},pre++l=L->ow P D cd mu ex L N ms U s pre.length d->(AU P D cd mu ex L N ms l pre.length d).H a->ow P D cd mu ex L N ms U s L.length a
 | [],pre,d,a,hl,i,h=>by
  cases au.1 (show(C.ret d).H a from h);grind
 | o::l,pre,d,a,hl,i,h=>by
  obtain⟨k,h1,f⟩:=ai.1 (show(az (AT P D cd mu ex L N ms pre.length o d) (λd=>AU P D cd mu ex L N ms l (pre.length+1) d)).H a from h);have j:L[pre.length]?=some o:=by grind
  have b:=FK i g j h1;have e:(pre++[o]).length=pre.length+1:=by simp
  rw[<-e] at b f;exact v_ g (by grind) b f
theorem ow.start (s:St D.E) (φ:T (AV D.E)):ow P D cd mu ex L N ms φ s 0 ⟨φ,s.h,[s.h],s.nx,0,[],[]⟩:=
 ⟨rfl,⟨λj r o d h=>by simp at h,λt _=>rfl⟩,λj o r _ h=>by simp at h,rfl,rfl,rfl,rfl,λk e h=>by simp at h,λe r h=>by simp at h,λk l e f _ h=>by simp at h,⟨Zah _,λj r h=>by simp at h⟩,λj k r q _ h=>by simp at h,λj o d h=>ω⟩
end
section
variable {D:Data}
variable {Z:Rc D} {Y:List (Rc D)}
noncomputable def uf (qS:Nat->Bool):List (Rc D)->Nat->Nat->Option (AO D.E)
 | [],_,_=>none
 | r::rs,j,b=>if piece D r=true/\qS j=true/\r.lo=b then r.pc.get b else uf qS rs (j+1) b
theorem sI (qS:Nat->Bool) (r:Rc D) (rs:List (Rc D)) (j b:Nat):uf qS (r::rs) j b=if piece D r/\qS j/\r.lo=b then r.pc.get b else uf qS rs (j+1) b:=rfl
def gV (rs:List (Rc D)):Prop:=∀(j k:Nat) (r q:Rc D),j<k->rs[j]?=some r->rs[k]?=some q->r.hi<=q.lo
def gV.tail (h:gV (Z::Y)):gV Y:=λj k Z q a c b=>h (j+1) (k+1) Z q ω (by assumption) (by assumption)
theorem kd (h:piece D Z):Z.cls=1/\Z.lo<Z.hi:=by
 obtain⟨h1,a⟩:=lD h;grind [aM,cm]
def gV.head {q:Rc D} {k:Nat} (h:gV (Z::Y)) (a:piece D Z) (b:Y[k]?=some q):Z.lo≠q.lo:=by
 have:=h 0 (k+1) Z q ω rfl (by assumption);have:=(kd a).2;omega
def gV.uniq {j k:Nat} {q:Rc D} (h:gV Y) (c:Y[j]?=some Z) (b:Y[k]?=some q) (p:piece D Z) (p2:piece D q) (e:Z.lo=q.lo):j=k:=by
 rcases Zcs j k with a | rfl | a
 ·have:=h j k Z q a c b;have:=(kd p).2;omega
 ·rfl
 ·have:=h k j q Z a b c;have:=(kd p2).2;omega
theorem jh {qS:Nat->Bool}:∀{rs:List (Rc D)} {j0 b:Nat} {o:AO D.E},gV rs->(uf qS rs j0 b=some o↔∃(j:Nat) (r:Rc D),rs[j]?=some r/\piece D r/\qS (j0+j)/\r.lo=b/\r.pc.get b=some o)
 | [],j0,b,o,_=>by simp[uf]
 | r::rs,j0,b,o,hA=>by
  have g:=jh (qS:=qS) (j0:=j0+1) (b:=b) (o:=o) hA.tail;rw[sI];by_cases a:piece D r/\qS j0/\r.lo=b
  ·rw[Zac a];constructor
   ·intro h;exact⟨0,r,rfl,a.1,a.2.1,a.2.2,h⟩
   ·rintro⟨j,q,h1,e,f,c,d⟩;cases j with
    | zero=>cases(show some r=some q from h1);exact d
    | succ j=>exact absurd (a.2.2.trans c.symm) (hA.head a.1 (by assumption))
  ·rw[Zaa a,g];constructor
   ·rintro⟨j,q,h1,e,f,c,d⟩;exact⟨j+1,q,by assumption,e,by grind,c,d⟩
   ·grind
theorem ke {qS:Nat->Bool}:∀{rs:List (Rc D)} {a:Nat} {h d:T (AO D.E)},(j9 D qS rs a h).H d->gV rs->∀b,d.get b=match uf qS rs a b with
  | some o=>some o
  | none=>h.get b
 | [],a,h,d,e,_,b=>by cases au.1 (show(C.ret h).H d from e);rfl
 | r::rs,a,h,d,e,hA,b=>by
  rcases gA.1 (show(bE (Bool.and (piece D r) (qS a)) (az (cN (r.pc.get r.lo)) λo=>az (cN (h.put r.lo (some o))) λh=>j9 D qS rs (a+1) h) (j9 D qS rs (a+1) h)).H d from e) with⟨g,h1⟩ | ⟨g,h1⟩
  ·obtain⟨k,hs⟩:=lD g;obtain⟨o,i,f⟩:=ai.1 h1;obtain⟨l,c,m⟩:=ai.1 f;rw[bz] at i c;rw[ke m hA.tail b,T.dO _ _ _ _ c b];rw[sI];by_cases s:b=r.lo
   ·subst s;rw[Zac (show piece D r/\qS a/\r.lo=r.lo from⟨k,hs,rfl⟩),i,Zac rfl];cases t:uf qS rs (a+1) r.lo with
    | none=>rfl
    | some q=>
     obtain⟨j,x,n,_,_,p,_⟩:=(jh hA.tail).1 t;exact absurd p.symm (hA.head k n)
   ·grind
  ·have u:¬(piece D r/\qS a/\r.lo=b):=λ⟨f,l,_⟩=>by grind
   rw[ke h1 hA.tail b];grind [sI]
end
section
variable {D:Data} {M:Pm D}
variable {u:Unit} {x y:AV D.E}
theorem pq {b:Bool} (h:(vF b).H u):b:=(bw.1 h).1
theorem wa {v:Value} (h:(vG x y).H u) (d:VR M x v):VR M y v:=by
 cases x<;>simp only[vG] at h<;>(try exact h.elim)
 case bool a=>
  obtain⟨b,p,h1,e⟩:=bk.1 h;obtain⟨rfl,_⟩:=cD.1 e;cases y<;>simp only[x_] at h1<;>(try exact h1.elim)
  ·grind [au]
  ·cases au.1 h1;cases d;exact .lit _
 case lit a=>
  cases y<;>simp only at h<;>(try exact h.elim)
  ·obtain⟨rfl,_⟩:=cD.1 h;cases d;exact .bool _
  ·have h1:=pq h
   rename_i b
   cases a<;>cases b<;>first | exact d | cases h1
 case int k a=>
  obtain⟨l,b,h1,e⟩:=bk.1 h;obtain⟨f,g⟩:=bw.1 e;obtain⟨rfl,_⟩:=cD.1 g;obtain rfl:=fE.1 f;cases y<;>simp only[cA] at h1<;>(try exact h1.elim)
  ·grind [au]
  ·cases au.1 h1;cases d;exact .num (by assumption)
 case num k a=>
  cases y<;>simp only at h<;>(try exact h.elim)
  ·obtain⟨f,g⟩:=bw.1 h;obtain⟨rfl,_⟩:=cD.1 g;obtain rfl:=fE.1 f;cases d;exact .int (by assumption)
  ·grind [bw,fE,pq,ql]
 case str a=>
  obtain⟨b,h1,e⟩:=ai.1 h;obtain⟨rfl,_⟩:=cD.1 e;cases y<;>simp only[gz] at h1<;>(try exact h1.elim);grind [au]
 case gy=>cases y<;>simp only at h<;>first | exact h.elim | exact d
 case ptr b o=>
  cases y<;>simp only at h<;>(try exact h.elim);grind [pq,aM]
 case j7 b o=>
  cases y<;>simp only at h<;>(try exact h.elim);grind [pq,aM]
 case lL b k i j=>
  cases y<;>simp only at h<;>(try exact h.elim);grind [bw,cD,aM]
 case mP c x j=>
  cases y<;>simp only at h<;>(try exact h.elim);grind [bw,ai,Jb,cD,aM]
 case dd=>cases y<;>simp only at h<;>first | exact h.elim | exact d
 case own b k n=>
  cases y<;>simp only at h<;>(try exact h.elim);grind [bw,cD,aM]
 case pre b k n=>
  cases y<;>simp only at h<;>(try exact h.elim);grind [bw,cD,aM]
 case part b k o n=>
  cases y<;>simp only at h<;>(try exact h.elim);grind [bw,cD,aM]
 case grow c xs b=>
  cases y<;>simp only at h<;>(try exact h.elim);grind [bw,ai,cL,cD,aM]
 case sub b o n=>
  cases y<;>simp only at h<;>(try exact h.elim);grind [pq,aM]
 case list c xs=>
  cases y<;>simp only at h<;>(try exact h.elim);grind [ai,cL,cD]
 case pP=>cases y<;>simp only at h<;>first | exact h.elim | exact d
 case map b=>
  cases y<;>simp only at h<;>(try exact h.elim);grind [aM,pq]
 case nilFunc=>cases y<;>simp only at h<;>first | exact h.elim | exact d
 case nilIface=>cases y<;>simp only at h<;>first | exact h.elim | exact d
theorem oy:∀{xs a:List (AV D.E)} {u:Unit} {b:List Value},(yT xs a).H u->LR M xs b->LR M a b
 | [],[],_,_,_,h=>h
 | [],_::_,_,_,h,_=>(h:False).elim
 | _::_,[],_,_,h,_=>(h:False).elim
 | x::xs,y::a,u,b,h,hl=>by
  obtain⟨_,h1,c⟩:=ai.1 (show(az (vG x y) λ_=>yT xs a).H u from h);obtain⟨f,r,rfl,e,d⟩:=hl.bD;exact .cons (wa h1 e) (oy c d)
theorem Jh {f g:Fn} (h:Wt f g):f=g:=by
 cases f<;>simp only[Wt] at h<;>(try cases h);grind [aM]
def Pk {v:Value} (h:(OI x y).H u) (b:VR M x v):VR M y v:=by
 cases x<;>simp only[OI] at h<;>(try exact wa h b)
 case agg xs=>
  cases y<;>simp only at h<;>(try exact h.elim);cases b with
  | agg hl a=>exact(VR.CC (oy h ⟨hl,a⟩):)
 case tuple xs=>
  cases y<;>simp only at h<;>(try exact h.elim);cases b with
  | tuple hl a=>exact(VR.CD (oy h ⟨hl,a⟩):)
 case func f xs k=>
  cases y<;>simp only at h<;>(try exact h.elim);obtain⟨h0,h1⟩:=bw.1 h;obtain⟨_,i,j⟩:=ai.1 h1;obtain rfl:=Jh h0;cases b with
  | func _ hl a d c=>
   have e:=oy i ⟨hl,a⟩;have g:=oy j ⟨d,c⟩;exact .func _ e.1 e.2 g.1 g.2
end
section
variable {P:Program} {D:Data} {cd:TypeId->Option Nat} {ex:tr D.E} {φ:T (AV D.E)}
variable {Z:List (Rc D)} {v:AV D.E} {Y:List Nat}
def Pl:sG P D V7:=λ_f a c d b h=>h.elim
theorem LF {mu g:Bool} {o:Oper} {s:St D.E} {w:St D.E} (h:hV P o=2) (d:(IS P D cd mu g o.op V7 s φ).H (v,w)):w=s:=by
 have p:∃v,(OF P D cd mu o.op V7 s φ).H (v,w):=by
  unfold IS at d;cases hk:Fl cd with
  | true=>
   rw[hk] at d;obtain⟨Q,O,h1,q⟩:=bk.1 (show(aL (knw (OF P D cd mu o.op V7 s φ)) λv s=>.ret (clo D v,s)).H (v,w) from d);cases au.1 q;exact⟨_,ϸ h1⟩
  | false=>
  rw[hk] at d;cases g with
  | false=>exact⟨v,d⟩
  | true=>
   obtain⟨Q,O,h1,q⟩:=bk.1 (show(aL (OF P D cd mu o.op V7 s φ) λv s=>az (settle D v) λv=>.ret (v,s)).H (v,w) from d);grind [ai,au]
 clear d;obtain⟨v,p⟩:=p;unfold hV at h;cases N:o.op<;>rw[N] at h p<;>simp only at h<;>(try cases h)
 case load t a=>
  obtain⟨_,_,h1⟩:=ai.1 p;exact(dq h1).2
 case lookup t x i ok=>exact(p:False).elim
 case convert src dst x=>
  obtain⟨u,_,h1⟩:=ai.1 p;obtain⟨F,z,q⟩:=ai.1 h1;obtain⟨C,_,f⟩:=ai.1 q;rw[gB] at z;have A:QbV F=false:=by
   rw[z] at h;cases F<;>first | rfl | cases h
  cases u<;>simp only at f<;>(try exact f.elim)
  case int=>obtain⟨_,_,j⟩:=ai.1 f;cases au.1 j;rfl
  case num=>obtain⟨_,_,j⟩:=ai.1 f;cases au.1 j;rfl
  case str=>rw[A] at f;exact(f:False).elim
  case own b k n=>
   rcases gA.1 f with⟨_,f⟩ | ⟨_,f⟩
   ·obtain⟨_,_,j⟩:=ai.1 f;obtain⟨_,_,I⟩:=ai.1 j;obtain⟨_,J⟩:=bw.1 I;obtain⟨_,K⟩:=bw.1 J;obtain⟨_,_,L⟩:=ai.1 K;obtain⟨_,M⟩:=bw.1 L;obtain⟨_,_,B⟩:=ai.1 M;rcases gA.1 B with⟨_,y⟩ | ⟨_,y⟩
    ·exact y.elim
    grind [au,cT]
   ·obtain⟨e,_,j⟩:=ai.1 f;cases C<;>simp only at j<;>(try exact j.elim);grind [ai,bw,au]
  all_goals
   obtain⟨e,_,j⟩:=ai.1 f;cases C<;>simp only at j<;>(try exact j.elim);grind [ai,bw,au]
 case call c=>
  cases l:c.callee with
  | value x=>rw[l] at h;cases h
  | invoke r m=>rw[l] at h;cases h
  | builtin b=>
   rw[l] at h;simp only at h;obtain⟨G,_,h1⟩:=ai.1 (show(az (Ot P D φ c.args.toList) λG=>jW P D cd mu b s c.argTypes.toList G).H (v,w) from(by simp only[OF] at p;rw[l] at p;exact p));cases b<;>simp only[QeL] at h<;>(try cases h);simp only[jW] at h1;obtain⟨_,_,q⟩:=ai.1 h1;obtain⟨_,_,f⟩:=ai.1 q;exact(dq f).2
theorem Pn {g:Bool} {o:Oper} {qS:Nat->Bool} {h:T (AO D.E)} (c:hV P o=2) (a:(loadAt P D cd g φ o qS Z h).H v):
  ∃k,(j9 D qS Z 0 h).H k/\(IS P D cd false g o.op V7 ⟨k,0⟩ φ).H (v,⟨k,0⟩):=by
 obtain⟨k,h1,b⟩:=ai.1 a;grind [bk,au,LF]
theorem rA {i:Nat} {r:Rc D}:∀{hs:List (T (AO D.E))} {last:Nat} {es:List Nat} {u:Unit},(jN P D cd Y Z i r hs last es).H u->∀(k:Nat) (h:T (AO D.E)),hs[k]?=some h->k<=es.length->
  oc Y i (match k with | 0=>last | k+1=>es.getD k 0+1) (es.drop k)->∃u,(AW P D cd Y Z i (match k with | 0=>last | k+1=>es.getD k 0+1) r h).H u
 | [],last,es,_,_,k,h,hk,_,_=>by simp at hk
 | h0::hs,last,es,u,hc,k,h,hk,hle,hm=>by
  obtain⟨_,h1,b⟩:=ai.1 (show(az (bE (oc Y i last es) (AW P D cd Y Z i last r h0) eC) λ_=>(List.rec (motive:=λ_=>C Unit) eC (λe es _=>jN P D cd Y Z i r hs (e+1) es) es:C Unit)).H u from hc);cases k with
  | zero=>
   grind [gA]
  | succ k=>
   cases es with
   | nil=>simp at hle
   | cons e es=>
    have c:(jN P D cd Y Z i r hs (e+1) es).H u:=b;have a:hs[k]?=some h:=by assumption
    have:=rA c k h a (by grind);grind
theorem tD {hs:List (T (AO D.E))} {es:List Nat}:∀{l:List (Rc D)} {i:Nat} {u:Unit},(Fp P D cd Y Z hs es l i).H u->∀(j:Nat) (r:Rc D),l[j]?=some r->r.cls=2->∃u,(jN P D cd Y Z (i+j) r hs 0 es).H u
 | [],i,u,_,j,r,b,_=>by grind
 | a::l,i,u,h,j,r,b,hc=>by
  obtain⟨_,h1,c⟩:=ai.1 (show(az (bE (Nat.beq a.cls 2) (jN P D cd Y Z i a hs 0 es) eC) λ_=>Fp P D cd Y Z hs es l (i+1)).H u from h);cases j with
  | zero=>
   cases(show some a=some r from b);rcases gA.1 h1 with⟨_,d⟩ | ⟨d,_⟩
   ·grind
   ·simp_all
  | succ j=>
   have:=tD c j r (by assumption) hc;grind
end
section
variable {P:Program} {D:Data} {cd:TypeId->Option Nat} {mu:Bool} {ex:tr D.E} {ops:Array Oper} {N:Nat} {ms:List Nat} {φ0:T (AV D.E)} {s:St D.E} {d:Ds D} {M0:Pm D} {w0:World}
theorem cP.Po {H d:Hp D} {M e:Pm D} {w g:World} {lo hi c a:Nat} (h:cP H M w d e g lo hi) (h1:c<=lo\/lo=hi) (k:hi<=a\/lo=hi) (i:c<=a):cP H M w d e g c a:=
 ⟨h.fq,λb f=>h.ext b ω,h.I0,h.kX,h.size,h.aN,h.born,λb f=>by
  rcases h.Lw b f with j | j
  ·grind
  ·exact .inr ω,h.os,h.tape,h.output,i⟩
theorem cP.Qch {H n f:Hp D} {M p g:Pm D} {w r i:World} {lo hi:Nat} (h:cP H M w n p r lo hi) (k:cP n p r f g i lo hi):cP H M w f g i lo hi:=by
 refine⟨k.fq,λb a=>by rw[k.ext b a,h.ext b a],λb o v e=>k.I0 _ _ _ (h.I0 _ _ _ e),λb o a=>?_,Zav h.size k.size,λc q y=>?_,λb o C a u z=>?_,λb a=>?_,k.os.trans h.os,k.tape.trans h.tape,k.output.trans h.output,h.le⟩
 ·rcases k.kX b o a with d | d | d
  ·exact h.kX b o d
  ·exact .inr (.inl (Zav h.size d))
  ·exact .inr (h.wrt d)
 ·rw[k.aN c (ZbB q h.size) λhw=>?_,h.aN c q y];rcases h.wrt hw with d | d
  ·omega
  ·grind
 ·rcases k.born b o C a u z with hs | ⟨b1,F,m,kP,j,l,t,B⟩
  ·exact .inl (Zav h.size hs)
  ·rcases h.born b1 F m kP j l with hs | ⟨G,J,E,s,x,A,I,hw⟩
   ·omega
   ·grind
 ·rcases k.Lw b a with kP | kP
  ·exact h.Lw b kP
  ·omega
noncomputable def SG (d:Ds D) (ms:List Nat) (E:Nat->Bool) (k:Nat):Hp D:=λb=>match (d.hs.getD k .nil).get b with
 | some o=>some o
 | none=>uf (λj=>E j&&b6 ms (fB d.es k) j) d.rs 0 b
structure Inv (ops:Array Oper) (N:Nat) (ms:List Nat) (φ0:T (AV D.E)) (s:St D.E) (d:Ds D) (M0:Pm D) (w0:World) (E:Nat->Bool) (a:Act) (w:World) (k:Nat) (M:Pm D):Prop where
 kle:k<=d.es.length
 ek:∀(l e:Nat),d.es[l]?=some e->(E e=true↔l<k)
 FL:cP s.h.get M0 w0 (SG d ms E k) M w s.nx d.nx
 fresh:∀(i:Nat) (r:Rc D),d.rs[i]?=some r->E i=false->bT M r.lo r.hi
 fr1:∀(i:Nat) (o:Oper) (r:Rc D) (t:Tmp),ops.toList[i]?=some o->d.rs[i]?=some r->o.dst=some t->E i=true->VR M r.v (a.tmps.getD t Go.undef)
 fr2:∀t:Tmp,(∀(i:Nat) (o:Oper),ops.toList[i]?=some o->E i=true->o.dst≠some t)->∀v,φ0.get t=some v->VR M v (a.tmps.getD t Go.undef)
 size:a.tmps.size=N
 defers:a.defers=[]
 i1:∀(j:Nat) (r:Rc D),E j=true->d.rs[j]?=some r->piece D r=true->b6 ms (fB d.es k) j=true->(d.hs.getD k .nil).get r.lo=none
 down:∀i j,jE ms i j=true->E j=true->E i=true
variable {k j:Nat} {E:Nat->Bool}
theorem FM {ms:List Nat} {es:List Nat}:b6 ms (fB es k) j↔(k=0\/jE ms j (es.getD (k-1) 0)=false):=by
 cases k with
 | zero=>exact⟨λ_=>.inl rfl,λ_=>rfl⟩
 | succ k=>
  show Bool.not (jE ms j (es.getD k 0))↔_
  simp
theorem ib (a:gV d.rs) {o:AO D.E}:SG d ms E k j=some o↔(d.hs.getD k .nil).get j=some o\/((d.hs.getD k .nil).get j=none/\∃(b:Nat) (r:Rc D),d.rs[b]?=some r/\piece D r/\E b/\b6 ms (fB d.es k) b/\r.lo=j/\r.pc.get j=some o):=by
 unfold SG;grind [jh]
def ins (E:Nat->Bool) (i:Nat):Nat->Bool:=λj=>decide (j=i)||E j
theorem rB (E:Nat->Bool) (i:Nat):ins E i i:=by simp[ins]
theorem kg (h:j≠k):ins E k j=E j:=by simp[ins,h]
def Ba (h:E j):ins E k j:=by simp[ins,h]
theorem Ji {h:T (AO D.E)} (e:d.hs[k]?=some h):d.hs.getD k .nil=h:=by grind
structure Nx (ops:Array Oper) (ms:List Nat) (E:Nat->Bool) (i:Nat) (o:Oper) (r:Rc D) (d:Ds D):Prop where
 o:ops.toList[i]?=some o
 r:d.rs[i]?=some r
 no:E i=false
 pre:∀j,jE ms j i=true->E j=true
variable {E:Nat->Bool} {i k:Nat} {o:Oper} {Z:Rc D} {a:Act} {w:World} {M:Pm D}
theorem Nx.eff (n:Nx ops ms E i o Z d) (h:Inv ops N ms φ0 s d M0 w0 E a w k M):b6 ms (fB d.es k) i:=by
 rw[FM];cases k with
 | zero=>exact .inl rfl
 | succ k=>
  right;cases b:jE ms i (d.es.getD k 0) with
  | false=>simpa using b
  | true=>
   have hk:k<d.es.length:=by have:=h.kle;omega
   have c:=Zaf hk;have e2:d.es.getD k 0=d.es[k]:=by grind
   have e:=(h.ek k d.es[k] c).2 ω;rw[e2] at b;have:=h.down i _ b e;rw[n.no] at this;cases this
theorem Inv.frame (Q:ow P D cd mu ex ops.toList N ms φ0 s ops.toList.length d) (A:v8 P ops.toList ms) (h:Inv ops N ms φ0 s d M0 w0 E a w k M) (n:Nx ops ms E i o Z d):
  ∃a2:Act,FR M Z.φ a2 N/\execOp a2.eval o=execOp a.eval o/\Region.wanted o (yielded ops a2.tmps)=Region.wanted o (yielded ops a.tmps):=by
 have rc:=Q.rc i o Z n.o n.r;obtain⟨φ,⟨p1,p2⟩,p3⟩:=rc.fr;have W:∀t,Reads ops.toList o t->∀v,Z.φ.get t=some v->VR M v (a.tmps.getD t Go.undef):=by
  intro t ht v z;rw[(p3 t).1 ht] at z;by_cases hex:∃(j:Nat) (l:Oper),ops.toList[j]?=some l/\l.dst=some t/\j<i
  ·obtain⟨j,l,h1,F,r⟩:=hex;have J:j<d.rs.length:=by rw[Q.len];exact(Zam.1 h1).1
   have T:=Zaf J;rw[p1 j d.rs[j] l t (by grind) h1 F] at z;cases z;rcases A.rd i j o l t n.o h1 ω F ht with y | y
   ·have:=A.tomY.lt y;omega
   ·exact h.fr1 j l d.rs[j] t h1 T F (n.pre j y)
  ·rw[p2 t (λj q l O m e=>hex ⟨j,l,m,e,by
    rw[Za7] at O;split at O
    ·assumption
    ·cases O⟩)] at z
   refine h.fr2 t (λj l m H e=>?_) v z;by_cases I:j=i
   ·subst I;rw[n.no] at H;cases H
   ·have C:¬j<i:=λC=>hex ⟨j,l,m,e,C⟩
    rcases A.rd i j o l t n.o m ω e ht with y | y
    ·have:=h.down i j y H;rw[n.no] at this;cases this
    ·have:=A.tomY.lt y;omega
 let u:Array Value:=(Array.range N).map λt=>if reads ops.toList o t then a.tmps.getD t Go.undef else Go.undef
 have X:∀t,u.getD t Go.undef=if t<N/\reads ops.toList o t=true then a.tmps.getD t Go.undef else Go.undef:=by
  intro t;rw[ZaT];grind
 have R:∀t,¬t<N->a.tmps.getD t Go.undef=Go.undef:=λt ht=>by
  rw[ZaT,Zcq (by rw[h.size];exact ZdA (by assumption))];rfl
 have c:∀t,Reads ops.toList o t->u.getD t Go.undef=a.tmps.getD t Go.undef:=λt ht=>by
  grind [zf]
 have G:FR M Z.φ { tmps:=u,defers:=[] } N:=by
  refine⟨λt v z=>?_,by grind,rfl⟩;grind
 have L:∀x∈o.op.operands,(Act.eval { tmps:=u,defers:=[] } x)=a.eval x:=by
  intro x hx;cases x with
  | tmp t=>exact c t (by unfold Reads o_;rw[pb];exact ZaU _ (ZcL.2 ⟨.tmp t,by grind,rfl⟩))
  | const v=>rfl
  | global g=>rfl
  | func f=>rfl
 refine⟨{ tmps:=u,defers:=[] },G,execOp_congr o (A.qS i o n.o) L,?_⟩;unfold Region.wanted;cases U:o.guard with
 | none=>rfl
 | some p=>
  obtain⟨g,b⟩:=p;simp only;congr 1;unfold yielded;cases K:ops[g]? with
  | none=>rfl
  | some Y=>
   rw[ZcE];cases B:Y.dst with
   | none=>rfl
   | some t=>
    rw[ZcE,ZcE];have ht:Reads ops.toList o t:=by
     unfold Reads o_ AR;rw[U];refine Zbf.2 (.inl ?_);show some t=oB (gn ops.toList g) λx=>x.dst
     rw[eI,ZaL,K];exact B.symm
    have e:=c t ht;by_cases V:t<N
    ·have S:u[t]?=some (u.getD t Go.undef):=by
      grind
     have e2:a.tmps[t]?=some (a.tmps.getD t Go.undef):=by
      rw[ZaT,Za5 (by rw[h.size];exact V)];rfl
     grind
    ·have S:u[t]?=none:=Zcq (by grind);have e2:a.tmps[t]?=none:=Zcq (by rw[h.size];exact ZdA (by assumption));grind
theorem Inv.put {z:Nat} {T:World} {K:Pm D} {J:Value} (g:ow P D cd mu ex ops.toList N ms φ0 s ops.toList.length d) (U:v8 P ops.toList ms) (h:Inv ops N ms φ0 s d M0 w0 E a w k M) (n:Nx ops ms E i o Z d)
  (R:VR K Z.v J) (u:cP (SG d ms E k) M w (SG d ms (ins E i) z) K T Z.lo Z.hi) (hk:(z=k/\Z.cls≠3)\/(z=k+1/\d.es[k]?=some i))
  (L:∀(j:Nat) (q:Rc D),ins E i j->d.rs[j]?=some q->piece D q->b6 ms (fB d.es z) j->(d.hs.getD z .nil).get q.lo=none):Inv ops N ms φ0 s d M0 w0 (ins E i) (a.put o.dst J) T z K:=by
 have C:=g.ox.2 i Z n.r;have A:=u.Le (h.fresh i Z n.r n.no);have Q:∀x,o.dst=some x->x<a.tmps.size:=λx X=>by rw[h.size];exact g.dst i o x (Zam.1 n.o).1 n.o X
 refine⟨?_,λl e H=>?_,h.FL.Qch (u.Po (.inl C.1) (.inl C.2) (by have:=g.ox.1;omega)),λj q p m=>?_,λj I q t f p ht m=>?_,λt ht=>?_,by rw[size_put,h.size],by rw[vW,h.defers],L,λx y F S=>?_⟩
 ·rcases hk with⟨e,_⟩ | ⟨e,e2⟩
  ·rw[e];exact h.kle
  ·grind
 ·by_cases B:e=i
  ·subst B;rw[rB];rcases hk with⟨_,r⟩ | ⟨Y,e2⟩
   ·obtain⟨_,q,h1,O⟩:=g.esr l e H;rw[n.r] at h1;cases h1;omega
   ·have:l=k:=by
     rcases Zcs l k with h1 | h1 | h1
     ·have:=g.inc l k e e h1 H e2;omega
     ·exact h1
     ·have:=g.inc k l e e h1 e2 H;omega
    simp;omega
  ·rw[kg B,h.ek l e H];grind
 ·have c:j≠i:=λe=>by grind [rB]
  rw[kg c] at m;have W:=h.fresh j q p m;have V:q.hi<=Z.lo\/Z.hi<=q.lo:=by
   rcases Nat.lt_or_gt_of_ne c with h1 | h1
   ·exact .inl (g.apart j i q Z h1 p n.r)
   ·exact .inr (g.apart i j Z q h1 n.r p)
  intro b h1 O;rw[u.ext b ω];exact W b h1 O
 ·rw[vV a o.dst J t Q];by_cases c:j=i
  ·subst c;rw[n.o] at f;cases f;rw[n.r] at p;cases p;grind
  ·rw[Zaa (U.wr i j o I t n.o f (λe=>c e.symm) ht)];rw[kg c] at m;exact(h.fr1 j I q t f p ht m).mono A
 ·rw[vV a o.dst J t Q,Zaa (ht i o n.o (rB E i))];exact λv R=>(h.fr2 t (λj I f m=>ht j I f (Ba m)) v R).mono A
 ·by_cases G:y=i
  ·subst G;exact Ba (n.pre x F)
  ·rw[kg G] at S;exact Ba (h.down x y F S)
end
section
variable {P:Program} {D:Data} {cd:TypeId->Option Nat} {mu:Bool} {ex:tr D.E} {ops:Array Oper} {N:Nat} {ms:List Nat} {φ0:T (AV D.E)} {s:St D.E} {d:Ds D} {M0:Pm D} {w0:World}
variable {i k j:Nat} {Z:Rc D} {E:Nat->Bool} {Y:List Nat}
theorem sJ (a:gV d.rs) (e:d.rs[i]?=some Z) (c:piece D Z=false):SG d ms (ins E i) k=SG d ms E k:=by
 funext b;refine Zdo λo=>?_
 grind [ib,kg]
theorem LG (a:gV d.rs) (h:d.rs[i]?=some Z) (g:piece D Z) (e:b6 ms (fB d.es k) i) (hz:SG d ms E k Z.lo=none) (b:Nat):
  SG d ms (ins E i) k b=if b=Z.lo then Z.pc.get Z.lo else SG d ms E k b:=by
 have f:(d.hs.getD k .nil).get Z.lo=none:=by
  cases c:(d.hs.getD k .nil).get Z.lo with
  | none=>rfl
  | some o=>rw[(ib a).2 (.inl c)] at hz;cases hz
 refine Zdo λo=>?_
 grind [ib,rB,kg]
theorem nbs (e:Y[i]?=some k):b6 ms (fB Y (i+1)) j↔jE ms j k=false:=by
 grind [FM]
def zh {o:Oper} {rs:List (Rc D)} {hs:List (T (AO D.E))} (h:Ph P D cd mu ex ops.toList ms φ0 rs hs Y i o Z) (a:Z.cls=3):hV P o=3:=by
 rcases h.kind with⟨e,_⟩ | ⟨e,_⟩ | ⟨e,_⟩ | ⟨_,_,e,_⟩
 ·omega
 ·omega
 ·omega
 ·exact e
def Pp (a:ow P D cd mu ex ops.toList N ms φ0 s ops.toList.length d) (c:v8 P ops.toList ms) {f:Nat} (b:i<k) (g:d.es[i]?=some j) (l:d.es[k]?=some f):jE ms j f:=by
 have v:=a.inc i k j f b g l;obtain⟨h1,r,n,o⟩:=a.esr i j g;obtain⟨p,q,t,u⟩:=a.esr k f l;have e:=Zaf h1;have m:=Zaf p;have c1:=zh (a.rc j _ r e n) o;have c2:=zh (a.rc f _ q m t) u;rcases c.eff j f _ _ e m ω c1 c2 with h | h
 ·exact h
 ·have:=c.tomY.lt h;omega
theorem nbk (c:ow P D cd mu ex ops.toList N ms φ0 s ops.toList.length d) (a:v8 P ops.toList ms) (e:d.es[i]?=some k) (g:jE ms j k=false):b6 ms (fB d.es i) j:=by
 rw[FM];cases i with
 | zero=>exact .inl rfl
 | succ i=>
  right;have hk:i<d.es.length:=by grind
  have b:=Zaf hk;have e2:d.es.getD (i+1-1) 0=d.es[i]:=by grind
  rw[e2];cases f:jE ms j d.es[i] with
  | false=>rfl
  | true=>
   have:=a.tomY.trans f (Pp c a (Zbr i) b e);grind
theorem Inv.step (hD:aY D) {o:Oper} {r:Rc D} {a:Act} {w:World} {M:Pm D} {K:Act->World->Prop} {Q:Exit->Act->World->Prop} (N_:sH P) (hex:sG P D ex)
  (W:ow P D cd mu ex ops.toList N ms φ0 s ops.toList.length d) (hL:v8 P ops.toList ms) (hlc:∀(i:Nat) (r:Rc D),d.rs[i]?=some r->r.cls=2->∃u,(jN P D cd ms d.rs i r d.hs 0 d.es).H u)
  (h:Inv ops N ms φ0 s d M0 w0 E a w k M) (n:Nx ops ms E i o r d) (hK:∀a' w' R M',Inv ops N ms φ0 s d M0 w0 (ins E i) a' w' R M'->K a' w'):wpOp P ops Q i K a w:=by
 obtain⟨a2,hf,he,hw⟩:=h.frame W hL n;have rc:=W.rc i o r n.o n.r;have p:gV d.rs:=W.apart;have hS:=h.FL.fq;have hnb:=n.eff h;unfold wpOp;rw[show ops[i]?=some o by rw[<-ZaL];exact n.o];simp only;rcases rc.kind with⟨c,F,Z,hhi⟩ | ⟨c,F,_,V,hhi⟩ | ⟨c,F,hcls,hhi⟩ | ⟨c,F,hcls,R,h0,h1,H,last,t,hh0,hh1,_,S,V⟩
 ·rw[Zaa (by grind [pk])];have O:piece D r=false:=by unfold piece;rw[c];rfl
  refine hK _ _ k M (h.put W hL n (by rw[Z];exact .undef) ?_ (.inl ⟨rfl,ω⟩) λj q L l f B=>?_)
  ·rw[sJ p n.r O,hhi];exact .refl hS _
  ·by_cases e:j=i
   ·subst e;rw[n.r] at l;cases l;rw[O] at f;cases f
   ·rw[kg e] at L;exact h.i1 j q L l f B
 ·rw[Zac (by grind [pk])];have J:=h.fresh i r n.r n.no;have hz:r.lo<r.hi->SG d ms E k r.lo=none:=λX=>by
   cases A:SG d ms E k r.lo with
   | none=>rfl
   | some ob=>
    obtain⟨mi,hm,_⟩:=hS.obj _ _ A;rw[J r.lo (Zah _) X] at hm;cases hm
  have U:=A_ (s:=⟨.nil,r.lo⟩) (s':=⟨r.pc,r.hi⟩) hD N_ Pl V (hS.sub (K:=(T.nil:T (AO D.E)).get) λb ob I=>by grind [T.get_nil]) hf J;refine .inl (U.wp he.symm _ _ λM' v' w' Z C=>hK _ _ k M' (h.put W hL n Z ?_ (.inl ⟨rfl,ω⟩) λj q L l f B=>?_))
  ·refine C.frame hS J (λb ob I=>by grind [T.get_nil]) λb=>?_
   have hdom:r.pc.get b≠none->b=r.lo/\r.lo<r.hi:=λI=>by
    rcases C.Lw b I with h2 | h2
    ·grind [T.get_nil]
    ·grind
   show SG d ms (ins E i) k b=if (T.nil:T (AO D.E)).get b=none/\r.pc.get b=none then SG d ms E k b else r.pc.get b
   by_cases O:piece D r
   ·rw[LG p n.r O hnb (hz (kd O).2)];grind [T.get_nil,kd]
   ·have hp':piece D r=false:=by grind
    rw[sJ p n.r hp'];cases A:r.pc.get b with
    | none=>rw[Zac ⟨T.get_nil _,rfl⟩]
    | some ob=>
     have h5:=(hdom (by grind)).2;exact absurd (show piece D r=true by unfold piece;rw[c,cm.2 h5];rfl) O
  ·by_cases e:j=i
   ·subst e;rw[n.r] at l;cases l;cases A:(d.hs.getD k .nil).get r.lo with
    | none=>rfl
    | some ob=>have:=hz (kd f).2;rw[(ib p).2 (.inl A)] at this;cases this
   ·rw[kg e] at L;exact h.i1 j q L l f B
 ·rw[Zac (by grind [pk])];have O:piece D r=false:=by unfold piece;rw[c];rfl
  have hkl:k<d.hs.length:=by rw[W.qo];have:=h.kle;omega
  have hh:=Zaf hkl;have hms:oc ms i (fB d.es k) (d.es.drop k):=by
   unfold oc;rw[hnb];cases hdr:d.es.drop k with
   | nil=>rfl
   | cons e es=>
    have t:d.es[k]?=some e:=by
     have:=ZbX (xs:=d.es) (i:=k) (j:=0);grind
    show Bool.not (jE ms e i)
    cases l:jE ms e i with
    | false=>rfl
    | true=>
     have:=(h.ek k e t).1 (n.pre e l);omega
  have QeZ:∃u,(AW P D cd ms d.rs i (fB d.es k) r d.hs[k]).H u:=by
   obtain⟨u,hu⟩:=hlc i r n.r c;have:=rA hu k _ hh h.kle;cases k with
   | zero=>exact this hms
   | succ k=>exact this hms
  obtain⟨u,hu⟩:=QeZ;obtain⟨v,hld,hsame⟩:=ai.1 hu;rw[rc.op] at hld;obtain⟨H,S,V⟩:=Pn hcls hld;have z:=ke S p;have m:∀b ob,H.get b=some ob->SG d ms E k b=some ob:=by
   intro b ob I;rw[z b] at I;cases A:uf (λj=>Bool.and (jE ms j i) (b6 ms (fB d.es k) j)) d.rs 0 b with
   | none=>rw[A] at I;exact(ib p).2 (.inl (by grind))
   | some ob2=>
    rw[A] at I;cases I;obtain⟨j,q,g1,g2,g3,g4,g5⟩:=(jh p).1 A;rw[Za6] at g3;obtain⟨g6,g7⟩:=lD g3;have hE:=n.pre j g6;refine(ib p).2 (.inr ⟨?_,j,q,g1,g2,hE,g7,g4,g5⟩);rw[<-g4];exact h.i1 j q hE g1 g2 g7
  have U:=(A_ (s:=⟨H,0⟩) (s':=⟨H,0⟩) hD N_ Pl V (hS.sub m) hf (λb _ I=>ω)).same λM' v' Z=>Pk hsame Z
  refine .inl (U.wp he.symm _ _ λM' v' w' Z C=>hK _ _ k M' (h.put W hL n Z ?_ (.inl ⟨rfl,ω⟩) λj q L l f B=>?_))
  ·have:=C.frame hS (λb _ I=>ω) m (H':=SG d ms (ins E i) k) λb=>by
    rw[sJ p n.r O];show _=if H.get b=none/\H.get b=none then _ else H.get b
    cases A:H.get b with
    | none=>rw[Zac ⟨rfl,rfl⟩]
    | some ob=>rw[Zaa (by simp),m b ob A]
   exact this.Po (.inr rfl) (.inr rfl) rc.le
  ·by_cases e:j=i
   ·subst e;rw[n.r] at l;cases l;rw[O] at f;cases f
   ·rw[kg e] at L;exact h.i1 j q L l f B
 ·rw[Zac (by grind [pk])];have hkk:R=k:=by
   have e1:¬R<k:=λX=>by
    have:=(h.ek R i t).2 X;rw[n.no] at this;cases this
   by_cases e2:k<R
   ·have hk:k<d.es.length:=by grind
    have e3:=Zaf hk;have:=(h.ek k _ e3).1 (n.pre _ (Pp W hL e2 e3 t));omega
   ·omega
  subst hkk;have O:piece D r=false:=by unfold piece;rw[c];rfl
  have J:=h.fresh i r n.r n.no;have hg0:=Ji hh0;have hg1:=Ji hh1;have hAt:gV (d.rs.take i):=λx y q q2 hxy l Y=>by
   rw[Za7] at l Y;split at l
   ·split at Y
    ·exact p x y q q2 hxy l Y
    ·cases Y
   ·cases l
  have z:=ke S hAt;have G:∀b ob,H.get b=some ob->(h0.get b=some ob/\True)\/∃(j:Nat) (q:Rc D),d.rs[j]?=some q/\piece D q/\jE ms j i/\b6 ms (fB d.es R) j/\q.lo=b/\q.pc.get b=some ob:=by
   grind [jh]
  have m:∀b ob,H.get b=some ob->SG d ms E R b=some ob:=by
   intro b ob I;rcases G b ob I with⟨I,_⟩ | ⟨j,q,g1,g2,g3,g4,g5,g6⟩
   ·grind [ib]
   ·have hE:=n.pre j g3;refine(ib p).2 (.inr ⟨?_,j,q,g1,g2,hE,g4,g5,g6⟩);rw[<-g5];exact h.i1 j q hE g1 g2 g4
  have hnone:∀(j:Nat) (q:Rc D),d.rs[j]?=some q->piece D q->E j->jE ms j i=false->H.get q.lo=none:=by
   intro j q l f hE L;cases A:H.get q.lo with
   | none=>rfl
   | some ob=>
    exfalso;rcases G _ _ A with⟨I,_⟩ | ⟨j2,q2,g1,g2,g3,g4,g5,g6⟩
    ·have:=h.i1 j q hE l f (nbk W hL t L);grind
    ·have:=p.uniq g1 l g2 f g5;grind
  have U:=A_ (s:=⟨H,r.lo⟩) (s':=⟨h1,r.hi⟩) hD N_ hex V (hS.sub m) hf J;refine .inl (U.wp he.symm _ _ λM' v' w' Z C=>hK _ _ (R+1) M' (h.put W hL n Z ?_ (.inr ⟨rfl,t⟩) λj q L l f B=>?_))
  ·refine C.frame hS J m λb=>?_
   show SG d ms (ins E i) (R+1) b=if H.get b=none/\h1.get b=none then SG d ms E R b else h1.get b
   have hins:∀(j:Nat) (q:Rc D),d.rs[j]?=some q->piece D q->ins E i j->E j:=λj q l f L=>by
    by_cases e:j=i
    ·subst e;rw[n.r] at l;cases l;rw[O] at f;cases f
    ·grind [kg]
   cases A:h1.get b with
   | some ob=>rw[Zaa (by simp)];exact(ib p).2 (.inl (by grind))
   | none=>
    cases hgK:H.get b with
    | some ob=>
     rw[Zaa (by simp)];cases hgS:SG d ms (ins E i) (R+1) b with
     | none=>rfl
     | some ob2=>
      grind [ib,nbs]
    | none=>
     rw[Zac ⟨rfl,rfl⟩];have hz:=z b;rw[hgK] at hz;have hz1:uf (λj=>Bool.and (jE ms j i) (b6 ms last j)) (d.rs.take i) 0 b=none/\h0.get b=none:=by
      grind
     refine Zdo λob=>?_
     rw[ib p,ib p,hg0,hg1,A,hz1.2];constructor
     ·grind [nbk,nbs]
     ·rintro(g | ⟨_,j,q,g1,g2,g3,g4,g5,g6⟩)
      ·cases g
      ·refine .inr ⟨rfl,j,q,g1,g2,Ba g3,(nbs t).2 ?_,g5,g6⟩;cases hm:jE ms j i with
       | false=>rfl
       | true=>
        have X:=hL.tomY.lt hm;grind [jh]
  ·have e:j≠i:=λe=>by subst e;rw[n.r] at l;cases l;rw[O] at f;cases f
   rw[kg e] at L;have hm:=(nbs t).1 B;rw[hg1];cases A:h1.get q.lo with
   | none=>rfl
   | some ob=>
    exfalso;rcases C.Lw q.lo (show h1.get q.lo≠none by grind) with g | g
    ·grind
    ·have g1:r.lo<=q.lo:=g.1;have g2:q.lo<r.hi:=g.2;have g3:=(kd f).2;rcases Nat.lt_or_gt_of_ne e with g4 | g4
     ·have:=p j i q r g4 l n.r;omega
     ·have:=p i j r q g4 n.r l;omega
end
section
variable {P:Program} {D:Data} {cd:TypeId->Option Nat} {mu:Bool} {ex:tr D.E} {ops:Array Oper} {N:Nat} {ms:List Nat} {φ0:T (AV D.E)} {s:St D.E} {d:Ds D} {M0:Pm D} {w0:World}
variable {l:Array Bool} {i:Nat}
theorem LH (d:v8 P ops.toList ms) (da:l.size=ops.size) (h:Region.ready .any ops l=[]):∀j,j<ops.size->l.getD j false:=by
 intro j
 induction j using Nat.strongRecOn with
 | _ j k=>
  intro g;cases c:l.getD j false with
  | true=>rfl
  | false=>
   have b:j<l.size:=ω;have:j∈Region.ready .any ops l:=mem_ready.2 ⟨by
    rw[ZaT,Za5 b] at c ⊢;exact c,ops[j],Za5 g,λe a f=>by
     have i:ops.toList[j]?=some ops[j]:=by grind
     obtain⟨h1,_,_⟩:=d.Qcf j _ e i (by grind) f;exact k e.on h1 ω⟩
   grind
theorem count_set (h:i<l.size) (a:l.getD i true=false):(l.setIfInBounds i true).toList.count false+1=l.toList.count false:=by
 rw[Array.toList_setIfInBounds];have h1:l.toList[i]'(by assumption)=false:=by
  simp_all
 grind
theorem FN (h:l.toList.count false=0):∀j,j<l.size->l.getD j false:=by
 intro j a;have h1:l.toList[j]'(by assumption)≠false:=λe=>by
  grind
 simp_all
theorem Inv.done (c:ow P D cd mu ex ops.toList N ms φ0 s ops.toList.length d) {r:T (AO D.E)} (o:(j9 D (b6 ms d.last) d.rs 0 d.h).H r) {E:Nat->Bool} {a:Act} {w:World} {M:Pm D} (h:Inv ops N ms φ0 s d M0 w0 E a w i M) (k:∀j,j<ops.size->E j):
  cP s.h.get M0 w0 r.get M w s.nx d.nx/\FR M d.φ a N:=by
 have n:gV d.rs:=c.apart;have hk:i=d.es.length:=by
  have:=h.kle;by_cases z:i<d.es.length
  ·have A:=Zaf z;have u:=(c.esr i _ A).1;have:=(h.ek i _ A).1 (k _ (by assumption));omega
  ·omega
 subst hk;have l:d.hs.getD d.es.length .nil=d.h:=Ji c.aX;have B:∀(j:Nat) (q:Rc D),d.rs[j]?=some q->E j:=λj q C=>k j (by
  have:=(Zam.1 C).1;rw[c.len] at this;simpa using this)
 refine⟨?_,λt v p=>?_,h.size,h.defers⟩
 ·have:r.get=SG d ms E d.es.length:=by
   funext b;rw[ke o n b];refine Zdo λob=>?_
   rw[ib n,l];cases I:uf (b6 ms d.last) d.rs 0 b with
   | some J=>
    obtain⟨j,q,g1,g2,g3,g4,g5⟩:=(jh n).1 I;rw[Za6,c.last] at g3;have hz:=h.i1 j q (B j q g1) g1 g2 g3;rw[l,g4] at hz;constructor
    ·grind
    ·rintro(g | ⟨_,F,G,k1,k2,k3,k4,k5,k6⟩)
     ·grind
     ·have:=n.uniq k1 g1 k2 g2 (k5.trans g4.symm);grind
   | none=>
    constructor
    ·grind
    ·rintro(g | ⟨_,F,G,k1,k2,k3,k4,k5,k6⟩)
     ·exact g
     ·have:uf (b6 ms d.last) d.rs 0 b=some ob:=(jh n).2 ⟨F,G,k1,k2,by rw[Za6,c.last];exact k4,k5,k6⟩;grind
  rw[this];exact h.FL
 ·by_cases hex:∃(j:Nat) (f:Oper),ops.toList[j]?=some f/\f.dst=some t
  ·obtain⟨j,f,h1,u⟩:=hex;have y:j<d.rs.length:=by rw[c.len];exact(Zam.1 h1).1
   have x:=Zaf y;rw[c.phi.1 j _ f t x h1 u] at p;cases p;exact h.fr1 j f _ t h1 x u (B j _ x)
  ·rw[c.phi.2 t λj q f C m e=>hex ⟨j,f,m,e⟩] at p;exact h.fr2 t (λj f m _ e=>hex ⟨j,f,m,e⟩) v p
theorem Qci (K:aY D) {Q:Exit->Act->World->Prop} {t:T (AO D.E)} (z:sH P) (hex:sG P D ex) (m:ow P D cd mu ex ops.toList N ms φ0 s ops.toList.length d) (v:v8 P ops.toList ms) (y:∀(i:Nat) (r:Rc D),d.rs[i]?=some r->r.cls=2->∃u,(jN P D cd ms d.rs i r d.hs 0 d.es).H u)
  (f:(j9 D (b6 ms d.last) d.rs 0 d.h).H t) (L:∀p q C,cP s.h.get M0 w0 t.get p C s.nx d.nx->FR p d.φ q N->Q .normal q C):
  ∀(fuel:Nat) (b:Array Bool) (a:Act) (w:World) (k:Nat) (M:Pm D),b.size=ops.size->b.toList.count false<=fuel->Inv ops N ms φ0 s d M0 w0 (λj=>b.getD j false) a w k M->wpAny P .any ops Q fuel b a w:=by
 intro fuel
 induction fuel with
 | zero=>
  intro b a w k M da F h;have g:=FN (Zda.1 F);have c:=h.done m f (λj x=>g j ω);refine⟨?_,L M a w c.1 c.2⟩;refine List.eq_nil_iff_forall_not_mem.2 λj x=>?_
  grind [mem_ready]
 | succ fuel U=>
  intro b a w k M da F h;refine⟨λR=>?_,λi hi=>?_⟩
  ·have c:=h.done m f (LH v da R);grind
  ·obtain⟨h1,o,I,J⟩:=mem_ready.1 hi;have l:i<ops.size:=(ZbU.1 I).1;have O:i<b.size:=ω;have G:ops.toList[i]?=some o:=by grind
   have B:i<d.rs.length:=by rw[m.len];simpa using l
   have A:b.getD i false=false:=by
    grind
   have n:Nx ops ms (λj=>b.getD j false) i o d.rs[i] d:=⟨G,Zaf B,A,λj x=>by
    obtain⟨W,e,g1,g2,g3,_,g4⟩:=v.back j i x;rw[G] at g1;cases g1;have g5:=J e (by grind) g3;rcases g4 with rfl | g4
    ·exact g5
    ·exact h.down j e.on g4 g5⟩
   refine h.step K z hex m v y n λq C V p t=>?_
   have S:ins (λj=>b.getD j false) i=λj=>(b.setIfInBounds i true).getD j false:=by
    funext j;unfold ins;by_cases e:j=i
    ·simp_all
    ·rw[getD_set_ne false (Ne.symm e)];simp[e]
   grind [count_set]
theorem CS (R:aY D) {id:Nat} {m:St D.E} {φ n:T (AV D.E)} (g:P.follows .mixedOrders) (F:sH P) (hex:sG P D ex) (h:(Cw P D cd mu ex ops.toList N s φ).H (m,n)):s.nx<=m.nx/\
  ∀(M:Pm D) (a:Act) (w:World),dQ M s.h.get w->FR M φ a N->bT M s.nx m.nx->∀Q:Exit->Act->World->Prop,
   (∀p q v,cP s.h.get M w m.h.get p v s.nx m.nx->FR p n q N->Q .normal q v)->(Code.region id ops true).wp P Q a w:=by
 obtain⟨ms,k,h1⟩:=ai.1 h;obtain⟨d,y,K⟩:=ai.1 h1;obtain⟨u,x,L⟩:=ai.1 K;obtain⟨W,f,O⟩:=ai.1 L;cases au.1 O;rw[bz] at k;have I:=yn k;have c:=v_ (pre:=[]) I rfl (ow.start s φ) y;have C:∀(i:Nat) (r:Rc D),d.rs[i]?=some r->r.cls=2->∃u,(jN P D cd ms d.rs i r d.hs 0 d.es).H u:=λi r G V=>by
  have:=tD x i r G V;grind
 refine⟨c.ox.1,λM a w J z B Q U=>?_⟩;have S:(λj=>(Array.replicate ops.size false).getD j false)=λ_=>false:=by
  funext j;rw[ZaT,Array.getElem?_replicate];split<;>rfl
 refine wp_region_any g (Qci (M0:=M) (w0:=w.drew) R F hex c I C f (λp q v hs A=>U p q v ((cP.uL J s.nx).trans hs) A) _ _ _ _ 0 M (by simp) (by simp) ?_);rw[S];have h0:d.hs.getD 0 .nil=s.h:=Ji c.h0;refine⟨Zaj _,λl e _=>⟨λh=>(by cases h),λh=>ω⟩,?_,λi r G _ b X Y=>?_,λi o r t _ _ _ h=>(by cases h),λt _=>z.at_ t,z.size,z.defers,λj r h=>(by cases h),λi j _ h=>(by cases h)⟩
 ·have:SG d ms (λ_=>false) 0=s.h.get:=by
   funext b;refine Zdo λob=>?_
   rw[ib c.apart,h0];grind
  rw[this];exact(cP.refl (cP.uL J s.nx).fq s.nx).Po (.inr rfl) (.inr rfl) c.ox.1
 ·have:=c.ox.2 i r G;exact B b ω (by grind)
end
section
variable {P:Program} {D:Data} {M M':Pm D} {w w':World} {H:Hp D} {s s':St D.E} {lo:Nat}
variable {b a:Nat} {Z:Ren} {c:MI}
def TF (M:Pm D) (n:Nat):Prop:=∀b,n<=b->M.pl b=none
def TF.fresh (h:TF M b):bT M b a:=λlo h1 _=>h lo h1
def TF.FL {hi:Hp D} (h:TF M b) (hs:cP H M w hi M' w' b a):TF M' a:=λlo c=>by
 have:=hs.le;rw[hs.ext lo ω];exact h lo ω
theorem bT.next {c:Hp D} {lo hi:Nat} (h:bT M lo hi) (hs:cP H M w c M' w' lo a):bT M' a hi:=λb h1 d=>by
 have:=hs.le;rw[hs.ext b ω];exact h b ω d
def bT.fst {hi:Nat} (h:bT M b hi) (d:a<=hi):bT M b a:=λlo h1 c=>h lo h1 ω
def TF.lt (h:TF M b) (n:M.pl a=some c):a<b:=by
 refine Zdy λhle=>?_
 rw[h a hle] at n;cases n
noncomputable def rl (r:Ren) (M:Pm D):Pm D:=⟨λt=>(dN r t).bind M.pl,M.sg⟩
def Ext (r a:Ren):Prop:=∀t b,dN r t=some b->dN a t=some b
def Inj (r:Ren):Prop:=∀t a b,dN r t=some b->dN r a=some b->t=a
theorem wb (h:dN Z b=some a) (t:M.pl a=some c):(rl Z M).pl b=some c:=by
 show(dN Z b).bind M.pl=some c
 grind
theorem fF (h:(rl Z M).pl b=some c):∃t,dN Z b=some t/\M.pl t=some c:=by
 have a:(dN Z b).bind M.pl=some c:=h;cases d:dN Z b with
 | none=>rw[d] at a;cases a
 | some t=>rw[d] at a;exact⟨t,rfl,a⟩
def Jj {c:Ren} (a:Le M M') (e:Ext Z c):Le (rl Z M) (rl c M'):=⟨λt f h=>by
 obtain⟨b,h1,d⟩:=fF h;exact wb (e _ _ h1) (a.1 _ _ d),a.2⟩
theorem Ext.refl (r:Ren):Ext r r:=λ_ _ h=>h
def Ext.trans {c a:Ren} (h:Ext Z c) (k:Ext c a):Ext Z a:=λt b e=>k t b (h t b e)
theorem iO (t b:Nat) (r:Ren) (x:Nat):dN ((t,b)::r) x=if t=x then some b else dN r x:=by
 grind [dN,qZ]
theorem CT (h:dN Z b=some a):(b,a)∈Z:=by
 induction Z with
 | nil=>cases(show none=some a from h)
 | cons p Z t=>
  grind [iO]
theorem lY (h:yj Z b=false):∀t,dN Z t≠some b:=λt e=>by
 have:yj Z b:=vZ.2 ⟨(t,b),CT e,aM.2 rfl⟩;grind
theorem eP {α:Type} (t:Nat) (a:α) (l:List (Nat×α)) (x:Nat):cq ((t,a)::l) x=if t=x then some a else cq l x:=by
 grind [cq,qZ]
theorem oz {α:Type} {l:List (Nat×α)} {a:α} (h:cq l b=some a):(b,a)∈l:=by
 induction l with
 | nil=>cases(show none=some a from h)
 | cons p l t=>
  grind [eP]
structure Mv (m m':Mt D.E):Prop where
 inj:Inj m.r->Inj m'.r
 ext:Ext m.r m'.r
 WG:∀t b,dN m.r t=some b->m'.s.h.get b=m.s.h.get b
 td:∀p∈m.todo,p∈m'.todo
 new:∀t b,dN m'.r t=some b->dN m.r t=some b\/(t,b)∈m'.todo
 le:m.s.nx<=m'.s.nx
theorem Mv.refl (m:Mt D.E):Mv m m:=⟨id,.refl _,λ_ _ _=>rfl,λ_ h=>h,λ_ _ h=>.inl h,Zah _⟩
theorem Mv.trans {m d a:Mt D.E} (h:Mv m d) (k:Mv d a):Mv m a:=
 ⟨λi=>k.inj (h.inj i),h.ext.trans k.ext,λt b e=>(k.WG t b (h.ext t b e)).trans (h.WG t b e),λp f=>k.td p (h.td p f),λt b e=>by
  rcases k.new t b e with h1 | h1
  ·rcases h.new t b h1 with c | c
   ·grind
   ·exact .inr (k.td _ c)
  ·exact .inr h1,Zav h.le k.le⟩
abbrev Sm (m a:Mt D.E) (M:Pm D) (w:World) (b:Pm D):Prop:=cP m.s.h.get M w a.s.h.get b w m.s.nx a.s.nx
variable {b:Nat} {y:AO D.E} {m a:Mt D.E}
theorem Bb {t:Nat} (h:(pair D m b t).H a):Mv m a/\a.s=m.s/\dN a.r b=some t:=by
 unfold pair at h;cases g:dN m.r b with
 | some j=>
  rw[g] at h;obtain⟨h1,d⟩:=bw.1 (show(bB (Nat.beq j t) (.ret m)).H a from h);cases au.1 d;exact⟨.refl _,rfl,by simp_all⟩
 | none=>
  rw[g] at h;rcases gA.1 (show(bE (yj m.r t) .fail (.ret ⟨m.s,(b,t)::m.r,(b,t)::m.todo⟩)).H a from h) with⟨_,d⟩ | ⟨h1,d⟩
  ·exact d.elim
  ·cases au.1 d;have k:=lY h1;refine⟨⟨λhi x i c e f=>?_,λx c e=>?_,λ_ _ _=>rfl,λp l=>ZaU _ l,λx c e=>?_,Zah _⟩,rfl,by grind [iO]⟩
   ·rw[iO] at e f;by_cases q:b=x<;>by_cases n:b=i
    ·omega
    ·grind
    ·grind
    ·rw[Zaa q] at e;rw[Zaa n] at f;exact hi x i c e f
   ·grind [iO]
   ·grind [iO]
theorem cP.void {o1:AO D.E} {i:MI} (f:dQ M H w) (B:H b=some y) (C:M.pl b=some i) (F:i.real=false) (u:OR M o1 i w) (lo:Nat):cP H M w (iI H b (some o1)) M w lo lo:=by
 have a:∀c o,c≠b->iI H b (some o1) c=some o->H c=some o:=λc o e h=>by grind [iI]
 refine⟨⟨λc o h=>?_,λc l o x m v h p e n r A s=>?_,f.gj,λc o m h hw e d j t=>?_,λc k xs e m h g d=>?_,⟨f.lM.1,λc o m h hw e d=>?_⟩⟩,λ_ _=>rfl,λ_ _ _ h=>h,λ_ _ h=>.inl h,Zah _,λ_ _ _=>rfl,λc o m h e d=>?_,λc h=>?_,rfl,rfl,rfl,Zah _⟩
 ·by_cases q:c=b
  ·grind [iI]
  ·exact f.obj c o (a c o q h)
 ·have q:c≠b:=λq=>by grind
  have z:l≠b:=λq=>by grind
  exact f.inj c l o x m v (a _ _ q h) (a _ _ z p) e n r A s
 ·have q:c≠b:=λq=>by grind
  exact f.sep c o m (a _ _ q h) hw e d j t
 ·have q:c≠b:=λq=>by grind
  exact f.IZ c k xs e m (a _ _ q h) g d
 ·have q:c≠b:=λq=>by grind
  exact f.lM.2 c o m (a _ _ q h) hw e d
 ·grind
 ·by_cases q:c=b
  ·grind
  ·obtain⟨o,u⟩:=Zbs.1 h;grind
theorem cP.lock {o1:AO D.E} {a:MI} {cs:List (AV D.E)} (s:dQ M H w) (t:H b=some y) (hw:y.wr) (f:∀j,y.sD a j) (n:M.pl b=some a) (p:a.real) (B:o1.wr=false)
  (A:∀v∈cs,lS v) (x:∀(i:Nat) (v:AV D.E),cs[i]?=some v->∃m,w.cell? ⟨a.bV,a.sh+i,none⟩=some m/\VR M v m)
  (z:∀r,sx.Le M r->OR r o1 a w) (q:∀c xs e,o1=.arr c xs e true->ct (⟨M.pl,cY M.sg a.bV a.sh cs⟩:Pm D) a.bV a.sh c xs) (lo:Nat):
  cP H M w (iI H b (some o1)) ⟨M.pl,cY M.sg a.bV a.sh cs⟩ w lo lo:=by
 have d:∀j,M.sg a.bV j=none:=λj=>s.sep b y a t hw n p j (f j)
 have k:∀b o v,M.sg b o=some v->cY M.sg a.bV a.sh cs b o=some v:=kb λo _ _=>d o
 have hle:sx.Le M ⟨M.pl,cY M.sg a.bV a.sh cs⟩:=⟨λ_ _ h=>h,k⟩;have:=cP.upon (M1:=⟨M.pl,cY M.sg a.bV a.sh cs⟩) (sg1:=cY M.sg a.bV a.sh cs) (b0:=b) (b1:=b) (o1:=o1) (A2:=a) (lo:=lo) (hi:=lo) (w':=w) s t hw n p p rfl (by
   congr 1;funext c;by_cases e:c=b
   ·rw[Zac e,e];exact n
   ·rw[Zaa e]) (.inl ⟨rfl,rfl,rfl⟩) k (λb o h=>lV h) rfl (λ_ _=>rfl) rfl rfl rfl (z _ hle)
  (λo v g=>by
   unfold cY at g;split at g
   ·rename_i l
    obtain⟨m,h1,u⟩:=x _ v g;refine⟨A v (ZaJ g),m,?_,u.mono hle⟩;grind
   ·rw[d] at g;cases g) (λh=>by grind) q
 have e2:(λc=>if c=b then some o1 else if c=b then none else H c)=iI H b (some o1):=by
  grind [iI]
 grind
theorem Pq (h:H b=some y):iI H b (some y)=H:=by
 grind [iI]
theorem kh (A:aY D) {x:Ar D.E} (h:(qY D m b).H (x,a)):Mv m a/\a.r=m.r/\∀M w,dQ M m.s.h.get w->∃n,Sm m a M w n/\n.pl=M.pl/\
  ∃d,M.pl b=some d/\d.len=x.xs.length/\d.iN=D.size x.c/\(d.real->ct n d.bV d.sh x.c x.xs):=by
 unfold qY at h;rcases gA.1 h with⟨_,h0⟩ | ⟨h0,h1⟩
 ·exact h0.elim
 obtain⟨F,K,I⟩:=ai.1 h1;obtain⟨z,hs,q⟩:=ai.1 I;have q:=au.1 q;simp only[Zbx] at q;obtain⟨rfl,rfl⟩:=q;have j:=i_ K;obtain⟨q1,B⟩:=ka hs;have L:=lY h0;refine⟨⟨id,.refl _,λt c e=>?_,λ_ h=>h,λ_ _ h=>.inl h,Zd1 B.symm⟩,rfl,λM w o=>?_⟩
 ·show z.h.get c=m.s.h.get c
  rw[q1];grind [iI]
 ·obtain⟨d,k,f,g,p⟩:=o.obj b _ j;obtain⟨c,xs,e,ro⟩:=F;simp only at j q1 f g p ⊢;unfold Sm;show ∃n,cP m.s.h.get M w z.h.get n w m.s.nx z.nx/\_
  rw[q1,B];cases ro with
  | true=>
   refine⟨M,by rw[Pq j];exact .refl o _,rfl,d,k,f,g,λl=>o.IZ b c xs e d j k l⟩
  | false=>
   by_cases l:d.real
   ·obtain⟨C,G,k1,k2,k3,k4,k5⟩:=p l;refine⟨_,cP.lock (o1:=.arr c xs e true) (cs:=aW c xs) o j rfl (λ_=>trivial) k l rfl (λv u=>(dR A u).2) (λi v u=>?_) (λP J=>⟨f,g,λ_=>⟨C,G,k1,k2,k3,λi v u=>let ⟨N,x,b⟩:=k4 i v u;⟨N,x,b.mono J⟩,λh=>by cases h⟩⟩) (λc2 O e2 Q=>?_) _,rfl,d,k,f,g,λ_=>ct.add A⟩
    ·grind [World.cell?]
    ·grind [ct.add]
   ·have y:d.real=false:=by grind
    exact⟨M,cP.void (o1:=.arr c xs e true) o j k y ⟨f,g,λh=>absurd h l⟩ _,rfl,d,k,f,g,λh=>absurd h l⟩
end
section
variable {P:Program} {D:Data} {M M':Pm D} {w w':World} {H:Hp D} {s s':St D.E} {lo:Nat} {m m':Mt D.E}
variable {b o c:Nat} {a Y:AV D.E} {Z:Int} {X:AO D.E} {W:St D.E} {V:List (Nat×AO D.E)}
variable {O:Nat} {U:List (D.E c)}
def yb (m b:Mt D.E) (a t:AV D.E):Prop:=Mv m b/\∀M w,dQ M m.s.h.get w->bT M m.s.nx b.s.nx->∃c,Sm m b M w c/\∀v,VR M a v->VR (rl b.r c) t v
theorem ct.take (h:ct M b o c U) (n:Nat):ct M b o c (U.take n):=λi hi j v e=>by
 have a:i<U.length:=by grind
 rw[ZcP] at e;exact h i a j v e
theorem ct.drop (h:ct M b o c U) (n:Nat):ct M b (o+n*D.size c) c (U.drop n):=λi hi j v e=>by
 have a:n+i<U.length:=by grind
 rw[Zdm] at e;have:=h (n+i) a j v e;grind
theorem kZ {r:Ren} {v:Value} (h:VR M a v) (t:lS a):VR (rl r M) a v:=h.pure t λ_ _ _ e=>e
def yb.same (c:lS Y) (h:∀M v,VR M a v->VR M Y v) (m:Mt D.E):yb m m a Y:=
 ⟨.refl m,λM e b _=>⟨M,.refl b _,λv d=>kZ (h M v d) c⟩⟩
theorem sK {c:Nat} {xs:List (D.E c)} {b k:Nat} {v:Value} {a:MI} (p:M'.pl=M.pl) (i:M.pl b=some a) (hl:a.len=xs.length) (hz:a.iN=D.size c) (hs:a.real->ct M' a.bV a.sh c xs):
  (VR M (.own b k Z) v->VR M' (.list c xs) v)/\(VR M (.pre b k Z) v->VR M' (.list c (dj xs Z)) v)/\(∀o,VR M (.part b k o Z) v->VR M' (.list c (qX xs o Z)) v):=by
 refine⟨λh=>?_,λh=>?_,λo h=>?_⟩
 ·cases h with
  | own h hk g f d j ht=>
   rw[i] at h;cases h;rw[hl] at d j ⊢;exact .list (hs g) d j
  | lE h hk g f h0=>
   rw[i] at h;cases h;have:xs=[]:=Zap ω;subst this;exact .eD
 ·cases h with
  | pre h hk g f d hle j ht=>
   rename_i l cap m
   rw[i] at h;cases h;subst f;have e:(dj xs (l:Int)).length=l:=by grind [dj]
   have:=VR.list (M:=M') (c:=c) (xs:=dj xs (l:Int)) (b:=a.bV) (o:=a.sh) (cap:=cap) ((hs g).take _) ω ω;grind
  | og h hk g f h0=>
   rw[i] at h;cases h;have:xs=[]:=Zap ω;subst this;have e:dj ([]:List (D.E c)) Z=[]:=by simp[dj]
   rw[e];exact .eD
 ·cases h with
  | part h hk g f q hle d j=>
   rename_i l cap m
   rw[i] at h;cases h;subst f;have e:(qX xs o (l:Int)).length=l:=by simp[qX];omega
   have:=VR.list (M:=M') (c:=c) (xs:=qX xs o (l:Int)) (b:=a.bV) (o:=a.sh+o.toNat*D.size c) (cap:=cap) (((hs g).drop _).take _) ω ω;grind
  | jf h hk f q=>
   subst f;have e:qX xs o 0=[]:=by rfl
   rw[e];exact .eD
def Pr (t:aY D) {y:List (D.E b)} (h:(ON D m a b y).H m'):yb m m' a (.list b y):=by
 cases a<;>simp only[ON] at h<;>(try exact h.elim)
 case list r xs=>
  obtain⟨s,h1,g⟩:=ai.1 h;obtain⟨rfl,e⟩:=cL h1;cases e;obtain⟨rfl,d⟩:=cD.1 g;cases au.1 d;exact .same rfl (λM v f=>f) m
 case grow r xs c=>
  obtain⟨s,h1,g⟩:=ai.1 h;obtain⟨rfl,e⟩:=cL h1;cases e;obtain⟨rfl,d⟩:=cD.1 g;cases au.1 d;refine .same rfl (λM v f=>?_) m;cases f with
  | grow h B hl hz hs A z ht=>exact .list hs A z
  | jF h B=>exact .eD
 case dd=>
  obtain⟨rfl,d⟩:=cD.1 h;cases au.1 d;refine .same rfl (λM v f=>?_) m;cases f;exact .eD
 case own c k n=>
  obtain⟨a,m1,h1,g⟩:=bk.1 h;obtain⟨s,d,j⟩:=ai.1 g;obtain⟨r,xs,e,ro⟩:=a;obtain⟨rfl,e⟩:=cL d;cases e;obtain⟨rfl,l⟩:=cD.1 j;cases au.1 l;obtain⟨q1,x,q⟩:=kh t h1;refine⟨q1,λM w p _=>?_⟩;obtain⟨i,g1,g2,u,g3,g4,g5,g6⟩:=q M w p;exact⟨i,g1,λv f=>kZ ((sK g2 g3 g4 g5 g6).1 f) rfl⟩
 case pre c k n=>
  obtain⟨a,m1,h1,g⟩:=bk.1 h;obtain⟨s,d,j⟩:=ai.1 g;obtain⟨r,xs,e,ro⟩:=a;obtain⟨rfl,e⟩:=cL d;cases e;obtain⟨rfl,l⟩:=cD.1 j;cases au.1 l;obtain⟨q1,x,q⟩:=kh t h1;refine⟨q1,λM w p _=>?_⟩;obtain⟨i,g1,g2,u,g3,g4,g5,g6⟩:=q M w p;exact⟨i,g1,λv f=>kZ ((sK g2 g3 g4 g5 g6).2.1 f) rfl⟩
 case part c k o n=>
  obtain⟨a,m1,h1,g⟩:=bk.1 h;obtain⟨s,d,j⟩:=ai.1 g;obtain⟨r,xs,e,ro⟩:=a;obtain⟨rfl,e⟩:=cL d;cases e;obtain⟨rfl,l⟩:=cD.1 j;cases au.1 l;obtain⟨q1,x,q⟩:=kh t h1;refine⟨q1,λM w p _=>?_⟩;obtain⟨i,g1,g2,u,g3,g4,g5,g6⟩:=q M w p;exact⟨i,g1,λv f=>kZ ((sK g2 g3 g4 g5 g6).2.2 o f) rfl⟩
theorem Qe0 (d:(m.s.new X).H (b,W)) (h:yj m.r b=false):Mv m ⟨W,m.r,m.todo⟩:=by
 obtain⟨rfl,g,f⟩:=qb d;refine⟨id,.refl _,λt c e=>?_,λ_ h=>h,λ_ _ h=>.inl h,by grind⟩;show W.h.get c=m.s.h.get c
 rw[f];grind [lY,iI]
theorem CU {o:AO D.E} {mi:MI} (k:(m.s.new o).H (O,W)) (h:(IT D ⟨W,m.r,m.todo⟩ b O).H m') (g:∀c xs e,o≠.arr c xs e true) (z:mi.real=false) (u:∀M w,OR M o mi w)
  (x:∀M j,j.pl O=some mi->dN m'.r b=some O->∀v,VR M a v->VR (rl m'.r j) Y v):yb m m' a Y:=by
 rcases gA.1 h with⟨_,h0⟩ | ⟨h0,h⟩
 ·exact h0.elim
 have h1:=Qe0 k h0;obtain⟨p1,p2,p3⟩:=Bb h;obtain⟨rfl,l,y⟩:=qb k;refine⟨h1.trans p1,λM w p d=>⟨M.add m.s.nx mi,?_,λv i=>x M _ (by simp[Pm.add]) p3 v i⟩⟩;rw[p2] at d;have d:bT M m.s.nx W.nx:=d;unfold Sm;rw[p2];show cP m.s.h.get M w W.h.get _ w m.s.nx W.nx
 rw[l] at d;rw[l,y];exact cP.mQ (o:=o) (mi:=mi) p (d _ (Zah _) (Zbr _)) (λh=>by grind) (Zah _) (λ_ _=>rfl) rfl rfl rfl (u _ _) (λc xs e q=>absurd q (g c xs e))
def Pt (h:(ϳ D V m b o Z).H m'):yb m m' .dd (.own b o Z):=by
 obtain⟨k,a,h1⟩:=ai.1 h;clear a;cases k<;>simp only at h1<;>(try exact h1.elim)
 rename_i c _ e _
 obtain⟨hk,f⟩:=bw.1 h1;obtain⟨d,t,g,i⟩:=bk.1 f;obtain⟨q,j⟩:=cD.1 i;refine CU (mi:=⟨0,0,0,D.size c,0,false⟩) g j (λ_ _ _ h=>by cases h) rfl (λM w=>⟨rfl,rfl,λh=>by cases h⟩) λM s p l v r=>?_
 cases r;exact .lE (wb l p) (aM.1 hk) rfl q.symm rfl
def Pu {f:List (D.E o)} (h:(ϵ D V m b o f).H m'):yb m m' .dd (.grow o f b):=by
 obtain⟨c,a,h1⟩:=ai.1 h;clear a;cases c<;>simp only at h1<;>(try exact h1.elim)
 rename_i c2 e
 obtain⟨d,q,g,i⟩:=bk.1 h1;obtain⟨rfl,j⟩:=cD.1 i;refine CU (mi:=⟨0,0,0,D.size c2,0,false⟩) g j (λ_ _ _ h=>by cases h) rfl (λM w=>⟨rfl,λh=>by cases h⟩) λM p l k v n=>?_
 cases n;exact .jF (wb k l) rfl
theorem WH (Q:aY D) {k:Nat} {n:Int} (h:(Qb0 D m b O Z c k n).H m'):yb m m' (.pre b O Z) (.own c k n):=by
 unfold Qb0 at h;rcases gA.1 h with⟨_,h0⟩ | ⟨h0,h1⟩
 ·exact h0.elim
 obtain⟨hk,h2⟩:=bw.1 h1;obtain rfl:=aM.1 hk;obtain⟨a,ha,h3⟩:=ai.1 h2;rcases gA.1 h3 with⟨_,P⟩ | ⟨K,P⟩
 ·exact P.elim
 obtain⟨A,hs,X⟩:=ai.1 P;obtain⟨b2,q,u,N⟩:=bk.1 X;obtain⟨rfl,h7⟩:=cD.1 N;rcases gA.1 h7 with⟨_,y⟩ | ⟨y,h9⟩
 ·exact y.elim
 have y:yj m.r b2=false:=y;have F:=i_ ha;obtain⟨W,xs,e,ro⟩:=a;simp only at K F u;subst K;obtain⟨q1,f⟩:=ka hs;obtain⟨p1,p2,p3⟩:=Bb h9;obtain⟨rfl,g1,g2⟩:=qb u;rw[f] at g1 y p3;rw[f,q1] at g2;have hno:=lY h0;have Y:=lY y;have T:Mv m ⟨q,m.r,m.todo⟩:=by
  refine⟨id,.refl _,λt W e=>?_,λ_ h=>h,λ_ _ h=>.inl h,by grind⟩;show q.h.get W=m.s.h.get W
  rw[g2];grind [iI]
 refine⟨T.trans p1,λM w z x=>?_⟩;obtain⟨mi,I,X,N,S⟩:=z.obj b _ F;rw[p2] at x;have E:bT M m.s.nx q.nx:=x;rw[g1] at E;have x:M.pl m.s.nx=none:=E _ (Zah _) (Zbr _);unfold Sm;rw[p2];show ∃B,cP m.s.h.get M w q.h.get B w m.s.nx q.nx/\_
 rw[g1,g2]
 
 by_cases hle:0<=Z/\Z.toNat<=mi.len
 ·let d:MI:=⟨mi.bV,mi.sh,mi.p_,mi.iN,Z.toNat,mi.real⟩
  have G:d.len=(dj xs Z).length:=by grind [dj]
  have L:∀B:Pm D,B.pl m.s.nx=some d->∀v,VR M (.pre b O Z) v->VR (rl m'.r B) (.own c O Z) v:=λB J v p=>by
   cases p with
   | pre h hk g u U hl hc ht=>
    rename_i l cap N8
    rw[I] at h;cases h;subst u;exact VR.own (mi:=d) (wb p3 J) hk g rfl (by grind) (by grind) ht
   | og h hk g u h0=>
    rw[I] at h;cases h;exact VR.lE (mi:=d) (wb p3 J) hk g u (by grind)
  by_cases g:mi.real
  ·obtain⟨C,fz,k1,k2,k3,k4,k5⟩:=S g;have R:Le M (M.add m.s.nx d):=Pm.qk x;have:=cP.upon (b0:=b) (b1:=m.s.nx) (o0:=.arr W xs e false) (o1:=.arr W (dj xs Z) e false) (qT:=mi) (A2:=d) (M1:=M.add m.s.nx d) (sg1:=M.sg) (lo:=m.s.nx) (hi:=m.s.nx+1) (w':=w) z F rfl I g g rfl rfl (.inr ⟨rfl,x,rfl⟩) (λ_ _ _ h=>h) (λ_ _ h=>.inl h) rfl (λ_ _=>rfl) rfl rfl rfl
    ⟨G,N,λ_=>⟨C,fz,k1,k2,by
     have:(aW W (dj xs Z)).length<=(aW W xs).length:=by
      rw[a_ Q,a_ Q];exact Zbc _ (by grind)
     show mi.sh+_<=mi.p_
     omega,λi v p=>by
     have V:(aW W xs)[i]?=some v:=by
      rw[show dj xs Z=xs.take Z.toNat from rfl,mU Q] at p;rw[Za7] at p;split at p
      ·exact p
      ·cases p
     obtain⟨v',a1,a2⟩:=k4 i v V;exact⟨v',a1,a2.mono R⟩,k5⟩⟩
    (λo v p=>by
     rw[z.sep b _ mi F rfl I g o trivial] at p;cases p) (λ_ j _=>z.sep b _ mi F rfl I g j trivial)
   refine⟨M.add m.s.nx d,?_,L _ (by simp[Pm.add])⟩;assumption
  ·have hr':mi.real=false:=by grind
   have A:=cP.drop (b:=b) z m.s.nx;have q:=cP.mQ (o:=.arr W (dj xs Z) e false) (mi:=d) A.fq x (λh=>absurd h g) (Zah _) (λ_ _=>rfl) rfl rfl rfl (w':=w) ⟨G,N,λh=>absurd h g⟩;exact⟨M.add m.s.nx d,A.trans q,L _ (by simp[Pm.add])⟩
 ·
  let d:MI:=⟨0,0,0,D.size W,(dj xs Z).length,false⟩
  have A:=cP.drop (b:=b) z m.s.nx;have q:=cP.mQ (o:=.arr W (dj xs Z) e false) (mi:=d) A.fq x (λh=>by cases h) (Zah _) (λ_ _=>rfl) rfl rfl rfl (w':=w) ⟨rfl,rfl,λh=>by cases h⟩;refine⟨M.add m.s.nx d,A.trans q,λv p=>?_⟩;exfalso;cases p with
  | pre h hk g u U hl hc ht=>
   grind
  | og h hk g u h0=>
   omega
end
end sx
end Go.Proofs.YtklaonhcplaofaaGreat
