/- StreamRises: a part of the proof. -/
import Derived.Test.YtadfknojfbmjgaaGreatC0
import Derived.Deep.AppendSrc
import Derived.Laws.Entries
import Derived.Laws.IdiomCopy
set_option linter.all false
namespace Go.Proofs.YtadfknojfbmjgaaGreat
namespace sx
open Go
noncomputable section
abbrev Ren:=List (Nat×Nat)
def dT (r:Ren) (t:Nat):Option Nat:=List.rec (motive:=λ_=>Option Nat) none (λp _ a=>bif Nat.beq p.1 t then some p.2 else a) r
def yT (r:Ren) (b:Nat):Bool:=Bk (λp=>Nat.beq p.2 b) r
def ch.{u} {α:Type u} (l:List (Nat×α)) (t:Nat):Option α:=List.rec (motive:=λ_=>Option α) none (λp _ a=>bif Nat.beq p.1 t then some p.2 else a) l
structure Mt (E:Nat->Type) where
 s:St E
 r:Ren
 todo:Ren
section
variable (D:Data)
def pair (m:Mt D.E) (t b:Nat):C (Mt D.E):=Option.rec (motive:=λ_=>C (Mt D.E)) (bE (yT m.r b) .fail (.ret ⟨m.s,(t,b)::m.r,(t,b)::m.todo⟩)) (λa=>bB (Nat.beq a b) (.ret m)) (dT m.r t)
def JX (m:Mt D.E) (t b:Nat):C (Mt D.E):=bE (yT m.r b) .fail (pair D m t b)
def rJ (m:Mt D.E) (b:Nat):C (Ar D.E×Mt D.E):=bE (yT m.r b) .fail (av (kE m.s b) λa=>av (m.s.set b (some (.arr a.c a.xs a.e true))) λs=>.ret (a,⟨s,m.r,m.todo⟩))
def Pd (m:Mt D.E) (a:AV D.E) (c:Nat) (d:List (D.E c)):C (Mt D.E):=match a with
 | .list e xs=>av (gD c e xs) λxs=>.fq (xs=d) (.ret m)
 | .grow e xs _=>av (gD c e xs) λxs=>.fq (xs=d) (.ret m)
 | .cF=>.fq ([]=d) (.ret m)
 | .own b _ _=>aI (rJ D m b) λa m=>av (gD c a.c a.xs) λxs=>.fq (xs=d) (.ret m)
 | .pre b _ n=>aI (rJ D m b) λa m=>av (gD c a.c a.xs) λxs=>.fq (bW xs n=d) (.ret m)
 | .part b _ o n=>aI (rJ D m b) λa m=>av (gD c a.c a.xs) λxs=>.fq (qD xs o n=d) (.ret m)
 | _=>.fail
def Qbu (th:List (Nat×AO D.E)) (m:Mt D.E) (a k:Nat) (n:Int):C (Mt D.E):=av (cE (ch th a)) λo=>match o with
 | .arr c _ e _=>bB (Nat.beq (D.size c) k) (aI (m.s.new (.arr c [] e false)) λb s=>.fq (.ofNat (nat_lit 0)=n) (JX D ⟨s,m.r,m.todo⟩ a b))
 | _=>.fail
def Qbv (th:List (Nat×AO D.E)) (m:Mt D.E) (a:Nat) (c:Nat) (d:List (D.E c)):C (Mt D.E):=av (cE (ch th a)) λo=>match o with
 | .tok c2 e=>aI (m.s.new (.tok c2 e)) λb s=>.fq ([]=d) (JX D ⟨s,m.r,m.todo⟩ a b)
 | _=>.fail
def QdB (m:Mt D.E) (b f:Nat) (d:Int) (g k:Nat) (n:Int):C (Mt D.E):=bE (yT m.r b) .fail (bB (Nat.beq f k) (av (kE m.s b) λa=>bE a.ro .fail
 (av (m.s.set b none) λs=>aI (s.new (.arr a.c (bW a.xs d) a.e false)) λb s=>.fq (d=n) (JX D ⟨s,m.r,m.todo⟩ g b))))
def QdC (m:Mt D.E) (a:AV D.E) (c:Nat) (y:D.E c) (j:Nat):C (Mt D.E):=match a with
 | .nr f x d=>bB (Nat.beq d j) (av (JI c f x) λx=>.fq (x=y) (.ret m))
 | .mj b _ i d=>bB (Nat.beq d j) (aI (rJ D m b) λa m=>av (gD c a.c a.xs) λxs=>.fq (gt (D.W8 c) xs i=y) (.ret m))
 | .ptr b o=>bB (Bool.and (Nat.beq o (nat_lit 0)) (Nat.beq j (nat_lit 0))) (bE (yT m.r b) .fail (aI (Qdv m.s b) λcs e=>av (uK D c cs) λx=>av (m.s.set b (some (.cells cs e true))) λs=>.fq (x=y) (.ret ⟨s,m.r,m.todo⟩)))
 | _=>.fail
def m0 (th:List (Nat×AO D.E)) (m:Mt D.E) (a t:AV D.E):C (Mt D.E):=match t with
 | .list c h=>Pd D m a c h
 | .grow c h d=>match a with
  | .grow l xs b=>av (gD c l xs) λxs=>.fq (xs=h) (pair D m d b)
  | .cF=>Qbv D th m d c h
  | _=>.fail
 | .own d k n=>match a with
  | .own b e f=>bB (Nat.beq e k) (.fq (f=n) (pair D m d b))
  | .pre b e f=>QdB D m b e f d k n
  | .cF=>Qbu D th m d k n
  | _=>.fail
 | .pre d k n=>match a with
  | .pre b e f=>bB (Nat.beq e k) (.fq (f=n) (pair D m d b))
  | .own b e f=>bB (Nat.beq e k) (.fq (f=n) (pair D m d b))
  | _=>.fail
 | .part d k o n=>match a with
  | .part b e g f=>bB (Nat.beq e k) (.fq (g=o) (.fq (f=n) (pair D m d b)))
  | _=>.fail
 | .ptr d o=>match a with
  | .ptr b g=>bB (Nat.beq g o) (pair D m d b)
  | _=>.fail
 | .mj d k i j=>match a with
  | .mj b e p q=>bB (Bool.and (Nat.beq e k) (Nat.beq q j)) (.fq (p=i) (pair D m d b))
  | _=>.fail
 | .sub d o n=>match a with
  | .sub b g f=>bB (Bool.and (Nat.beq g o) (Nat.beq f n)) (pair D m d b)
  | _=>.fail
 | .nr c y j=>QdC D m a c y j
 | .map _=>.fail
 | t=>av (wo a t) λ_=>.ret m
def mL (th:List (Nat×AO D.E)) (c:List (AV D.E)):List (AV D.E)->Mt D.E->C (Mt D.E):=
 List.rec (motive:=λ_=>List (AV D.E)->Mt D.E->C (Mt D.E)) (λb m=>List.rec (motive:=λ_=>C (Mt D.E)) (.ret m) (λ_ _ _=>.fail) b)
  (λa _ d b m=>List.rec (motive:=λ_=>C (Mt D.E)) .fail (λt b _=>av (m0 D th m a t) λm=>d b m) b) c
def mV (th:List (Nat×AO D.E)) (m:Mt D.E) (a t:AV D.E):C (Mt D.E):=match t with
 | .agg c=>match a with
  | .agg b=>mL D th b c m
  | _=>.fail
 | .tuple c=>match a with
  | .tuple b=>mL D th b c m
  | _=>.fail
 | .func g xs j=>match a with
  | .func f d e=>bB (Xd f g) (av (mL D th d xs m) λm=>mL D th e j m)
  | _=>.fail
 | .iface u x=>match a with
  | .iface h i=>bB (Nat.beq h u) (m0 D th m i x)
  | _=>.fail
 | t=>m0 D th m a t
def mVs (th:List (Nat×AO D.E)) (c:List (AV D.E)):List (AV D.E)->Mt D.E->C (Mt D.E):=
 List.rec (motive:=λ_=>List (AV D.E)->Mt D.E->C (Mt D.E)) (λb m=>List.rec (motive:=λ_=>C (Mt D.E)) (.ret m) (λ_ _ _=>.fail) b)
  (λa _ d b m=>List.rec (motive:=λ_=>C (Mt D.E)) .fail (λt b _=>av (mV D th m a t) λm=>d b m) b) c
def mO (th:List (Nat×AO D.E)) (m:Mt D.E) (a t:AO D.E):C (Mt D.E):=match t with
 | .cells h e ro=>match a with
  | .cells g d b=>bB (Bool.and (Nat.beq d e) (Bool.rec (motive:=λ_=>Bool) (Bool.not b) b ro)) (mVs D th g h m)
  | _=>.fail
 | .arr c i e ro=>match a with
  | .arr f xs d b=>bB (Bool.and (Nat.beq d e) (Bool.rec (motive:=λ_=>Bool) (Bool.not b) b ro)) (av (gD c f xs) λxs=>.fq (xs=i) (.ret m))
  | _=>.fail
 | .tok c e=>match a with
  | .tok f d=>bB (Bool.and (Nat.beq f c) (Nat.beq d e)) (.ret m)
  | _=>.fail
def Pe (th:List (Nat×AO D.E)) (n:Nat):Mt D.E->C (Mt D.E):=
 Nat.rec (motive:=λ_=>Mt D.E->C (Mt D.E)) (λ_=>.fail)
  (λ_ b m=>List.rec (motive:=λ_=>C (Mt D.E)) (.ret m) (λp r _=>av (cE (ch th p.1)) λt=>av (cE (m.s.h.get p.2)) λa=>av (mO D th ⟨m.s,m.r,r⟩ a t) b) m.todo) n
def Pf (s:St D.E) (r:Ren) (th:List (Nat×AO D.E)) (a b:List (AV D.E)):C (St D.E×Ren):=av (mVs D th a b ⟨s,r,r⟩) λm=>av (Pe D th (nat_lit 200) m) λm=>
 bB (jA (λp=>Option.isSome (dT m.r p.1)) th) (.ret (m.s,m.r))
structure Iv (p:Prop):Prop where
 out:p
structure bf where
 f:FuncId
 Y:Type
 zy:List (AV D.E)->St D.E->C Y
 pre:Y->Prop
 args:Y->List (AV D.E)
 heap:Y->List (Nat×AO D.E)
 res:Y->AV D.E
 h_:Y->List (Nat×AO D.E)
 ox:Nat
 Bv:Nat
def rn (r:Ren) (a nx t:Nat):Nat:=Option.rec (motive:=λ_=>Nat) (Nat.add nx (Nat.sub t a)) (λb=>b) (dT r t)
def Bw (f:Nat->Nat) (v:AV D.E):AV D.E:=match v with
 | .ptr b o=>.ptr (f b) o
 | .mj b k i j=>.mj (f b) k i j
 | .own b k n=>.own (f b) k n
 | .pre b k n=>.pre (f b) k n
 | .part b k o n=>.part (f b) k o n
 | .grow c xs b=>.grow c xs (f b)
 | .sub b o n=>.sub (f b) o n
 | .map r=>.map (f r)
 | v=>v
def L_ (f:Nat->Nat) (v:AV D.E):AV D.E:=match v with
 | .agg cs=>.agg (sV (Bw D f) cs)
 | .tuple cs=>.tuple (sV (Bw D f) cs)
 | .func g xs a=>.func g (sV (Bw D f) xs) (sV (Bw D f) a)
 | .iface t x=>.iface t (Bw D f x)
 | v=>Bw D f v
def Pg (f:Nat->Nat) (v:AV D.E):AV D.E:=match v with
 | .tuple cs=>.tuple (sV (L_ D f) cs)
 | v=>L_ D f v
def Bx (f:Nat->Nat) (o:AO D.E):AO D.E:=match o with
 | .cells cs e ro=>.cells (sV (L_ D f) cs) e ro
 | o=>o
def OD (v:AV D.E):Bool:=match v with
 | .agg _=>false
 | .tuple _=>false
 | .func _ _ _=>false
 | .iface _ _=>false
 | _=>true
def okV (v:AV D.E):Bool:=match v with
 | .agg cs=>jA (OD D) cs
 | .tuple cs=>jA (OD D) cs
 | .func _ xs a=>Bool.and (jA (OD D) xs) (jA (OD D) a)
 | .iface _ x=>OD D x
 | _=>true
def Qg3 (v:AV D.E):Bool:=match v with
 | .tuple cs=>jA (okV D) cs
 | v=>okV D v
def okO (o:AO D.E):Bool:=match o with
 | .cells cs _ _=>jA (okV D) cs
 | _=>true
def QdD (r:Ren) (l:List (Nat×AO D.E)):T (AO D.E)->C (T (AO D.E)):=List.rec (motive:=λ_=>T (AO D.E)->C (T (AO D.E))) (λh=>.ret h) (λp _ a h=>av (cE (dT r p.1)) λb=>av (cE (h.put b none)) a) l
def inP (f:Nat->Nat) (l:List (Nat×AO D.E)):T (AO D.E)->C (T (AO D.E)):=List.rec (motive:=λ_=>T (AO D.E)->C (T (AO D.E))) (λh=>.ret h) (λp _ a h=>av (a h) λh=>cE (h.put (f p.1) (some (Bx D f p.2)))) l
def below (n:Nat) (l:List (Nat×AO D.E)):Bool:=jA (λp=>Nat.ble (Nat.succ p.1) n) l
def Ph (k:bf D) (y:k.Y) (args:List (AV D.E)) (s:St D.E):C (AV D.E×St D.E):=.fq (Iv (k.pre y)) (bB (Bool.and (Bool.and (below D k.ox (k.heap y)) (Nat.ble k.ox k.Bv)) (Bool.and (Qg3 D (k.res y)) (jA (λp=>okO D p.2) (k.h_ y)))) (aI (Pf D s [] (k.heap y) args (k.args y)) λa r=>
 av (QdD D r (k.heap y) a.h) λb=>av (inP D (rn r k.ox a.nx) (k.h_ y) b) λc=>.ret (Pg D (rn r k.ox a.nx) (k.res y),⟨c,Nat.add a.nx (Nat.sub k.Bv k.ox)⟩)))
def Pj {α:Type} (x:C α):Bool:=C.rec (motive:=λ_=>Bool) (λ_=>false) true (λ_ _ c=>c) (λ_ _ _ a b=>Bool.and a b) x
def caT (tab:List (bf D)):yM D.E:=λf args s=>List.rec (motive:=λ_=>C (AV D.E×St D.E)) .fail
 (λk _ a=>bE (Nat.beq k.f f) (bE (Pj (k.zy args s)) a (av (k.zy args s) λy=>Ph D k y args s)) a) tab
inductive Ex where
 | normal
 | exit (id:Nat)
 | ret
inductive Hint where
 | lock (t:Nat)
 | Xf (t n:Nat)
 | fact (t:Nat)
 | tZ (b o n:Nat)
structure gP where
 X:Type
 aH:List Nat
 sl:X->List (Nat×AV D.E)
 kp:List Nat
 pc:X->List (Nat×AO D.E)
 nx:Nat
 inv:X->Prop
 me:X->Nat
structure Qg4 where
 K:Type
 L:K->gP D
 E:Option (gP D)
structure cH where
 hs:List (Nat×Hint)
 mu:List Nat
 lp:List (Nat×gP D)
 jn:List (Nat×gP D)
 un:Nat
 kf:List (Nat×Qg4 D)
abbrev Dc:=Ex->St D.E->T (AV D.E)->Prop
def JY (v:AV D.E):Prop:=match v with
 | .int k n=>mv k n
 | .str s=>aC (eO s) 9223372036854775807
 | .list _ xs=>aC (ab xs) 9223372036854775807
 | .grow _ xs _=>aC (ab xs) 9223372036854775807
 | .own _ _ n=>(aC zI n&&aC n 9223372036854775807)
 | _=>True
def Pk (l:List (AV D.E)):Prop:=List.rec (motive:=λ_=>Prop) True (λv _ a=>JY D v/\a) l
def JZ (v:AV D.E):Prop:=match v with
 | .agg l=>Pk D l
 | .tuple l=>Pk D l
 | v=>JY D v
def Pl (k:IntKind) (x:Int) (n:Nat):C (AV D.E):=Nat.rec (motive:=λ_=>C (AV D.E)) (ask (az x zI) (.ret (.num k zI))) (λm a=>.split (az x (.ofNat (Nat.succ m))) (.ret (.num k (.ofNat (Nat.succ m)))) a) n
def Dd (v:AV D.E) (n:Nat):C (AV D.E):=match v with
 | .int k x=>Pl D k x n
 | v=>.ret v
def J0 (s:St D.E) (v:AV D.E):C (AV D.E×St D.E):=match v with
 | .own b _ _=>aI (rJ D ⟨s,[],[]⟩ b) λa m=>.ret (.list a.c a.xs,m.s)
 | .pre b _ n=>aI (rJ D ⟨s,[],[]⟩ b) λa m=>.ret (.list a.c (bW a.xs n),m.s)
 | .part b _ o n=>aI (rJ D ⟨s,[],[]⟩ b) λa m=>.ret (.list a.c (qD a.xs o n),m.s)
 | .grow c xs _=>.ret (.list c xs,s)
 | v=>.ret (v,s)
def Gp (b o n:Nat) (s:St D.E):C (St D.E):=av (cE (s.h.get b)) λa=>match a with
 | .cells cs e ro=>av (cE (gH cs o)) λv=>av (Dd D v n) λv=>s.set b (some (.cells (cA cs o v) e ro))
 | _=>.fail
def zC (h:Hint) (s:St D.E) (φ:T (AV D.E)):C (St D.E×T (AV D.E)):=match h with
 | .lock t=>av (cE (φ.get t)) λv=>aI (J0 D s v) λv s=>av (cE (φ.put t (some v))) λφ=>.ret (s,φ)
 | .Xf t n=>av (cE (φ.get t)) λv=>av (Dd D v n) λv=>av (cE (φ.put t (some v))) λφ=>.ret (s,φ)
 | .fact _=>.ret (s,φ)
 | .tZ b o n=>av (Gp D b o n s) λs=>.ret (s,φ)
def Qbw (h:Hint) (φ:T (AV D.E)) (K:Prop):Prop:=match h with
 | .fact t=>Option.rec (motive:=λ_=>Prop) K (λv=>JZ D v->K) (φ.get t)
 | _=>K
def oN (l:List (Nat×Hint)) (id:Nat):St D.E->T (AV D.E)->(St D.E->T (AV D.E)->Prop)->Prop:=
 List.rec (motive:=λ_=>St D.E->T (AV D.E)->(St D.E->T (AV D.E)->Prop)->Prop) (λs φ K=>K s φ)
  (λp _ a s φ K=>bif Nat.beq p.1 id then Qbw D p.2 φ ((zC D p.2 s φ).wp λq=>Prod.rec (motive:=λ_=>Prop) (λs φ=>a s φ K) q) else a s φ K) l
def Xg (Q:Dc D) (K:St D.E->T (AV D.E)->Prop):Dc D:=λe s φ=>match e with
 | .normal=>K s φ
 | .exit id=>Q (.exit id) s φ
 | .ret=>Q .ret s φ
def QdE (id:Nat) (Q:Dc D):Dc D:=λe s φ=>match e with
 | .normal=>Q .normal s φ
 | .exit a=>bif Nat.beq a id then Q .normal s φ else Q (.exit a) s φ
 | .ret=>Q .ret s φ
def wx (φ:T (AV D.E)) (l:List Nat):C (List (AV D.E)):=List.rec (motive:=λ_=>C (List (AV D.E))) (.ret []) (λt _ a=>av (cE (φ.get t)) λv=>av a λr=>.ret (v::r)) l
def Xh (a:List (AV D.E)) (l:List Nat):T (AV D.E)->C (T (AV D.E)):=
 List.rec (motive:=λ_=>List (AV D.E)->T (AV D.E)->C (T (AV D.E))) (λ_ φ=>.ret φ) (λt _ b a φ=>List.rec (motive:=λ_=>C (T (AV D.E))) .fail (λv a _=>av (cE (φ.put t (some v))) λφ=>b a φ) a) l a
def Ma (s:St D.E) (l:List Nat):C (List (Nat×AO D.E)):=List.rec (motive:=λ_=>C (List (Nat×AO D.E))) (.ret []) (λt _ a=>av (cE (s.h.get t)) λv=>av a λr=>.ret ((t,v)::r)) l
def Mb (l:List (Nat×AO D.E)):T (AO D.E)->C (T (AO D.E)):=List.rec (motive:=λ_=>T (AO D.E)->C (T (AO D.E))) (λh=>.ret h) (λp _ a h=>av (a h) λh=>cE (h.put p.1 (some p.2))) l
def QdF {α:Type} (l:List (Nat×α)):List Nat:=sV (λp=>p.1) l
def QdG {α:Type} (l:List (Nat×α)):List α:=sV (λp=>p.2) l
def fixed (base:Nat) (l:List (Nat×AO D.E)):Ren:=List.rec (motive:=λ_=>Ren) [] (λp _ a=>bif Nat.ble (Nat.succ p.1) base then(p.1,p.1)::a else a) l
def t_ (base:Nat) (L:gP D) (x:L.X) (b:List (AV D.E)) (kp:List (Nat×AO D.E)) (s:St D.E) (φ:T (AV D.E)):C Unit:=
 av (wx D φ (nm L.aH (QdF (L.sl x)))) λa=>av (Pf D s (fixed D base (nm kp (L.pc x))) (nm kp (L.pc x)) a (nm b (QdG (L.sl x)))) λ_=>eY
def J1 (base:Nat) (L:gP D) (x:L.X) (a:List (AV D.E)) (kp:List (Nat×AO D.E)):C (St D.E×T (AV D.E)):=
 av (Xh D a L.aH .nil) λφ=>av (Xh D (QdG (L.sl x)) (QdF (L.sl x)) φ) λφ=>av (Mb D (nm kp (L.pc x)) .nil) λh=>bB (Bool.and (Nat.ble base L.nx) (below D L.nx (nm kp (L.pc x)))) (.ret (⟨h,L.nx⟩,φ))
abbrev Wk:=Nat->St D.E->T (AV D.E)->Dc D->Prop
def zD (base:Nat) (L:gP D) (body:Wk D):Wk D:=λp s φ Q=>
 (av (wx D φ L.aH) λa=>av (Ma D s L.kp) λkp=>.ret (a,kp)).wp λq=>Prod.rec (motive:=λ_=>Prop) (λa kp=>
  (∃x:L.X,(t_ D base L x a kp s φ).wp λ_=>Iv (L.inv x))/\
  (∀x:L.X,Iv (L.inv x)->(J1 D base L x a kp).wp λq=>Prod.rec (motive:=λ_=>Prop) (λs φ=>body (Nat.mul (nat_lit 2) p) s φ λe s φ=>match e with
   | .normal=>∃b:L.X,(t_ D base L b a kp s φ).wp λ_=>Iv (L.inv b/\L.me b<L.me x)
   | .exit id=>Q (.exit id) s φ
   | .ret=>Q .ret s φ) q)) q
def Pn (base:Nat) (L:gP D) (a:List (AV D.E)) (kp:List (Nat×AO D.E)) (body:Wk D) (p:Nat) (G:Nat->St D.E->T (AV D.E)->Prop) (Q:Dc D):Prop:=∀x:L.X,Iv (L.inv x)->(J1 D base L x a kp).wp λq=>Prod.rec (motive:=λ_=>Prop) (λs φ=>body (Nat.mul (nat_lit 2) p) s φ λe s φ=>match e with| .normal=>G (L.me x) s φ| .exit id=>Q (.exit id) s φ| .ret=>Q .ret s φ) q
def wy (base:Nat) (L:gP D) (b:List (AV D.E)) (kp:List (Nat×AO D.E)) (n:Nat) (s:St D.E) (φ:T (AV D.E)):Prop:=∃a:L.X,(t_ D base L a b kp s φ).wp λ_=>Iv (L.inv a/\L.me a<n)
def Gq (base:Nat) (L b:gP D) (body:Wk D):Wk D:=λp s φ Q=>
 (av (wx D φ L.aH) λa=>av (Ma D s L.kp) λkp=>bB (Nat.beq (ly L.aH) (ly b.aH)) (.ret (a,kp))).wp λq=>Prod.rec (motive:=λ_=>Prop) (λa kp=>
  (∃x:L.X,(t_ D base L x a kp s φ).wp λ_=>Iv (L.inv x))/\
  Pn D base L a kp body p (λn s φ=>wy D base L a kp n s φ\/wy D base b a kp n s φ) Q/\Pn D base b a kp body p (λn s φ=>wy D base L a kp n s φ\/wy D base b a kp n s φ) Q) q
def zE (base:Nat) (L:gP D) (b c:Wk D):Wk D:=λp s φ Q=>
 (av (wx D φ L.aH) λa=>av (Ma D s L.kp) λkp=>.ret (a,kp)).wp λq=>Prod.rec (motive:=λ_=>Prop) (λa kp=>
  b (Nat.mul (nat_lit 2) p) s φ (Xg D Q λs φ=>∃x:L.X,(t_ D base L x a kp s φ).wp λ_=>Iv (L.inv x))/\
  (∀x:L.X,Iv (L.inv x)->(J1 D base L x a kp).wp λq=>Prod.rec (motive:=λ_=>Prop) (λs φ=>c (Nat.succ (Nat.mul (nat_lit 2) p)) s φ Q) q)) q
def Bz (n:Nat) (body:Wk D):Wk D:=Nat.rec (motive:=λ_=>Wk D) (λ_ _ _ _=>False) (λ_ a p s φ Q=>body (Nat.mul (nat_lit 2) p) s φ λe s φ=>match e with
   | .normal=>a (Nat.add p (nat_lit 18446744073709551616)) s φ Q
   | .exit id=>Q (.exit id) s φ
   | .ret=>Q .ret s φ) n
end
section
variable (P:Program) (D:Data) (cd:TypeId->Option Nat) (ca:yM D.E) (base:Nat) (iX:cH D) (N:Nat)
def Xi (l:List Nat) (n:Nat):Bool:=Bk (λm=>Nat.beq m n) l
def CW (c:Code):Wk D:=
 Code.rec (motive:=λ_=>Wk D)
  (λ_ s φ Q=>Q .normal s φ)
  (λid ops draw _ s φ Q=>oN D iX.hs id s φ λs φ=>(bif draw then Pc P D cd (Xi iX.mu id) ca ops.toList N s φ else wv P D cd (Xi iX.mu id) ca ops.toList N ops.toList (nat_lit 0) s φ).wp λq=>Prod.rec (motive:=λ_=>Prop) (λs φ=>Q .normal s φ) q)
  (λ_ _ b a p s φ Q=>Option.rec (motive:=λ_=>Prop) (Option.rec (motive:=λ_=>Prop) (b (Nat.mul (nat_lit 2) p) s φ (Xg D Q λs φ=>a (Nat.succ (Nat.mul (nat_lit 2) p)) s φ Q)) (λL=>zE D base L b a p s φ Q) (ch iX.jn p)) (λF=>∃k:F.K,zE D base (F.L k) b a p s φ Q) (ch iX.kf p))
  (λc _ _ b a p s φ Q=>(av (ev P D φ c) λv=>Da D v).wp λt=>bif t then b (Nat.mul (nat_lit 2) p) s φ Q else a (Nat.succ (Nat.mul (nat_lit 2) p)) s φ Q)
  (λid _ a p s φ Q=>a (Nat.mul (nat_lit 2) p) s φ (QdE D id Q))
  (λ_ a p s φ Q=>Option.rec (motive:=λ_=>Prop) (Option.rec (motive:=λ_=>Prop) (Bz D iX.un a p s φ Q) (λL=>zD D base L a p s φ Q) (ch iX.lp p)) (λF=>∃k:F.K,Option.rec (motive:=λ_=>Prop) (zD D base (F.L k) a p s φ Q) (λd=>Gq D base (F.L k) d a p s φ Q) F.E) (ch iX.kf p))
  (λ_ _ _ _ _ _ _ _ _ _=>False)
  (λid _ s φ Q=>Q (.exit id) s φ)
  (λ_ _ _ _ _ _=>False)
  (λ_ _ s φ Q=>Q .normal s φ)
  (λ_ _ _ _ _=>False)
  (λ_ s φ Q=>Q .ret s φ)
  (λ_ _ _ _ _=>False) c
def Po (s:St D.E) (φ:T (AV D.E)) (r:ResultVar):C (AV D.E):=match r with
 | .tmp t=>cE (φ.get t)
 | .cell a t=>av (cE (φ.get a)) λv=>C7 P D s t v
def Xj (s:St D.E) (φ:T (AV D.E)) (rs:List ResultVar):C (List (AV D.E)):=
 List.rec (motive:=λ_=>C (List (AV D.E))) (.ret []) (λr _ a=>av (Po P D s φ r) λv=>av a λb=>.ret (v::b)) rs
def BA (v:AV D.E):List (AV D.E):=match v with
 | .tuple a=>a
 | v=>[v]
def wz (b:List (AV D.E)):Nat->T (AV D.E)->C (T (AV D.E)):=
 List.rec (motive:=λ_=>Nat->T (AV D.E)->C (T (AV D.E))) (λ_ φ=>.ret φ) (λv _ a i φ=>av (cE (φ.put i (some v))) λφ=>a (Nat.succ i) φ) b
def stay (a b:List (Nat×AO D.E)):Ren:=List.rec (motive:=λ_=>Ren) [] (λp _ c=>bif Option.isSome (ch b p.1) then(p.1,p.1)::c else c) a
def named (a b:List (Nat×AO D.E)) (lo hi:Nat):Bool:=jA (λp=>Bool.or (Option.isSome (ch a p.1)) (Bool.and (Nat.ble lo p.1) (Nat.ble (Nat.succ p.1) hi))) b
def Pq (v:AV D.E):Bool:=match v with
 | .tuple a=>Bool.not (Nat.beq (ly a) (nat_lit 1))
 | _=>true
def QnA (k:bf D) (y:k.Y) (rs:List ResultVar):Dc D:=λe s φ=>match e with
 | .exit _=>False
 | _=>(bB (Bool.and (Pq D (k.res y)) (Bool.and (named D (k.heap y) (k.h_ y) k.ox k.Bv) (Nat.ble k.ox k.Bv))) (av (Xj P D s φ rs) λa=>Pf D s (stay D (k.h_ y) (k.heap y)) (k.h_ y) a (BA D (k.res y)))).wp λ_=>True
def Qbx (k:bf D) (body:Code) (rs:List ResultVar) (y:k.Y):Prop:=(av (wz D (k.args y) (nat_lit 0) .nil) λφ=>av (Mb D (k.heap y) .nil) λh=>.ret (φ,h)).wp λq=>Prod.rec (motive:=λ_=>Prop)
 (λφ h=>CW P D cd ca k.ox iX N body (nat_lit 1) ⟨h,k.ox⟩ φ (QnA P D k y rs)) q
end
end
end sx
namespace sx
open Go Go.RowKit
section
variable {α β γ:Type}
variable {b:β} {c:Bool} {a:α} {x:C α} {Z Y:Nat} {X:C β} {W:Option α} {V:Option β}
theorem aB {f:α->Option β}:oB W f=some b↔∃a,W=some a/\f a=some b:=by
 cases W with
 | none=>exact⟨λh=>(nomatch h),λ⟨_,h,_⟩=>(nomatch h)⟩
 | some a=>exact⟨λh=>⟨a,rfl,h⟩,λ⟨_,h,r⟩=>by cases h;exact r⟩
def lI:oI c V=some b↔c/\V=some b:=by
 cases c
 ·exact⟨λh=>(nomatch h),λ⟨h,_⟩=>(nomatch h)⟩
 ·exact⟨λh=>⟨rfl,h⟩,λ⟨_,h⟩=>h⟩
def BB {y:Option β}:oE c V y=some b↔(c/\V=some b)\/(c=false/\y=some b):=by
 cases c
 ·exact⟨λh=>.inr ⟨rfl,h⟩,λh=>by rcases h with⟨h,_⟩ | ⟨_,h⟩;cases h;exact h⟩
 ·exact⟨λh=>.inl ⟨rfl,h⟩,λh=>by rcases h with⟨_,h⟩ | ⟨h,_⟩;exact h;cases h⟩
theorem ai {b:α}:(C.ret a).H b↔a=b:=ZbW
theorem cw {p:Prop}:(C.fq p x).H a↔p/\x.H a:=ZbW
theorem vt {y:C α}:(C.split c x y).H a↔(c/\x.H a)\/(c=false/\y.H a):=ZbW
theorem af {f:α->C β}:(av x f).H b↔∃a,x.H a/\(f a).H b:=by
 induction x with
 | ret a=>exact⟨λh=>⟨a,rfl,h⟩,λ⟨_,h,d⟩=>by cases ai.1 h;exact d⟩
 | fail=>exact⟨λh=>h.elim,λ⟨_,h,_⟩=>h.elim⟩
 | fq p x k=>
  show(p/\(av x f).H b)↔_
  rw[k];exact⟨λ⟨g,a,h1,d⟩=>⟨a,⟨g,h1⟩,d⟩,λ⟨a,⟨g,h1⟩,d⟩=>⟨g,a,h1,d⟩⟩
 | split c x y i j=>
  show((c/\(av x f).H b)\/(c=false/\(av y f).H b))↔_
  rw[i,j];constructor
  ·rintro(⟨e,a,h1,d⟩ | ⟨e,a,h1,d⟩)
   ·exact⟨a,.inl ⟨e,h1⟩,d⟩
   ·exact⟨a,.inr ⟨e,h1⟩,d⟩
  ·rintro⟨a,⟨e,h1⟩ | ⟨e,h1⟩,d⟩
   ·exact .inl ⟨e,a,h1,d⟩
   ·exact .inr ⟨e,a,h1,d⟩
theorem bh {x:C (α×β)} {f:α->β->C γ} {r:γ}:(aI x f).H r↔∃a b,x.H (a,b)/\(f a b).H r:=by
 grind [aI,af]
theorem bm:(bB c X).H b↔c/\X.H b:=by
 cases c
 ·exact⟨λh=>h.elim,λ⟨h,_⟩=>(nomatch h)⟩
 ·exact⟨λh=>⟨rfl,h⟩,λ⟨_,h⟩=>h⟩
theorem im {y:C β}:(bE c X y).H b↔(c/\X.H b)\/(c=false/\y.H b):=by
 cases c
 ·exact⟨λh=>.inr ⟨rfl,h⟩,λh=>by rcases h with⟨h,_⟩ | ⟨_,h⟩;cases h;exact h⟩
 ·exact⟨λh=>.inl ⟨rfl,h⟩,λh=>by rcases h with⟨_,h⟩ | ⟨h,_⟩;exact h;cases h⟩
theorem bu:(cE W).H a↔W=some a:=by
 cases W with
 | none=>exact⟨λh=>h.elim,λh=>nomatch h⟩
 | some b=>exact⟨λh=>ZaR some (ai.1 h),λh=>by cases h;rfl⟩
theorem cN:(ask c X).H b↔c/\X.H b:=ZbW
theorem fX {K:α->Prop} (h:x.wp K):∃a,x.H a/\K a:=by
 induction x with
 | ret a=>exact⟨a,rfl,h⟩
 | fail=>exact h.elim
 | fq p x k=>obtain⟨j,h⟩:=h;obtain⟨a,h1,b⟩:=k h;exact⟨a,⟨j,h1⟩,b⟩
 | split c x y f g=>
  obtain⟨h1,b⟩:=h;cases i:c with
  | true=>obtain⟨a,d,e⟩:=f (h1 i);exact⟨a,.inl ⟨rfl,d⟩,e⟩
  | false=>obtain⟨a,d,e⟩:=g (b i);exact⟨a,.inr ⟨rfl,d⟩,e⟩
theorem Qg5 {b:α} (d:x.H a) (g:x.H b):a=b:=by
 induction x with
 | ret c=>exact(ai.1 d).symm.trans (ai.1 g)
 | fail=>exact d.elim
 | fq p x k=>exact k d.2 g.2
 | split c x y h i=>
  rcases d with⟨h1,e⟩ | ⟨h1,e⟩<;>rcases g with⟨j,f⟩ | ⟨j,f⟩
  ·exact h e f
  ·grind
  ·grind
  ·exact i e f
theorem aF:Nat.beq Z Y↔Z=Y:=⟨ZdO,λh=>h▸ZdY Z⟩
theorem b9:Nat.ble Z Y↔Z<=Y:=Nat.ble_eq▸ZbW
theorem wA:Nat.beq Z Y=false↔Z≠Y:=by
 grind [aF]
theorem De:Nat.ble Z Y=false↔Y<Z:=by
 grind [b9]
end
section
variable {α:Type}
theorem T.get_nil (k:Nat):(T.nil:T α).get k=none:=rfl
def T.my (v:Option α) (l r:T α):(T.node v l r).get 0=v:=rfl
theorem T.oO (v:Option α) (l r:T α) (k:Nat) (h:k % 2=0):(T.node v l r).get (k+1)=l.get (k / 2):=by
 show Nat.rec (motive:=λ_=>Option α) (l.get (k / 2)) (λ_ _=>r.get (k / 2)) (k % 2)=_
 rw[h];rfl
theorem T.rK (v:Option α) (l r:T α) (k:Nat) (h:k % 2=1):(T.node v l r).get (k+1)=r.get (k / 2):=by
 show Nat.rec (motive:=λ_=>Option α) (l.get (k / 2)) (λ_ _=>r.get (k / 2)) (k % 2)=_
 rw[h];rfl
theorem T.wB:∀(n k:Nat) (a:Option α) (t:T α),T.mk1 n k a=some t->∀j,t.get j=if j=k then a else none
 | 0,k,a,t,h,j=>nomatch h
 | n+1,0,a,t,h,j=>by
  have b:some (T.node a .nil .nil)=some t:=h;cases b;cases j with
  | zero=>simp[T.my]
  | succ j=>
   grind [T.oO,T.get_nil,T.rK]
 | n+1,k+1,a,t,h,j=>by
  have b:Nat.rec (motive:=λ_=>Option (T α)) (oB (T.mk1 n (k / 2) a) λl=>some (.node none l .nil)) (λ_ _=>oB (T.mk1 n (k / 2) a) λr=>some (.node none .nil r)) (k % 2)=some t:=h;rcases Zbq k with e | e
  ·rw[e] at b;obtain⟨l,hl,ht⟩:=aB.1 b;cases ht;have c:=T.wB n _ _ _ hl;cases j with
   | zero=>simp[T.my]
   | succ j=>
    grind [T.oO,T.rK,T.get_nil]
  ·rw[e] at b;obtain⟨l,hl,ht⟩:=aB.1 b;cases ht;have c:=T.wB n _ _ _ hl;cases j with
   | zero=>simp[T.my]
   | succ j=>
    grind [T.oO,T.get_nil,T.rK]
theorem T.dU:∀(t:T α) (k:Nat) (a:Option α) (b:T α),t.put k a=some b->∀j,b.get j=if j=k then a else t.get j
 | .nil,k,a,b,h,j=>by rw[T.wB 64 k a b h j,T.get_nil]
 | .node v l r,0,a,b,h,j=>by
  have c:some (T.node a l r)=some b:=h;cases c;cases j with
  | zero=>simp[T.my]
  | succ j=>
   rfl
 | .node v l r,k+1,a,b,h,j=>by
  have c:Nat.rec (motive:=λ_=>Option (T α)) (oB (l.put (k / 2) a) λd=>some (.node v d r)) (λ_ _=>oB (r.put (k / 2) a) λg=>some (.node v l g)) (k % 2)=some b:=h;rcases Zbq k with e | e
  ·rw[e] at c;obtain⟨d,hl,ht⟩:=aB.1 c;cases ht;have f:=T.dU l _ _ _ hl;cases j with
   | zero=>simp[T.my]
   | succ j=>
    grind [T.oO,T.rK]
  ·rw[e] at c;obtain⟨d,hl,ht⟩:=aB.1 c;cases ht;have f:=T.dU r _ _ _ hl;cases j with
   | zero=>simp[T.my]
   | succ j=>
    grind [T.oO,T.rK]
end
section
variable {α:Type}
theorem ju (l:List α):ly l=l.length:=by
 induction l with
 | nil=>rfl
 | cons a l b=>show Nat.succ (ly l)=_;rw[b];rfl
theorem fe:∀(l:List α) (n:Nat),gH l n=l[n]?
 | [],n=>by rfl
 | a::l,0=>rfl
 | a::l,n+1=>by show gH l n=_;rw[fe l n];simp
theorem fE:∀(x y:List α),nm x y=x++y
 | [],y=>rfl
 | a::x,y=>by show a::nm x y=_;rw[fE x y];rfl
theorem pH {β:Type} (f:α->β):∀l:List α,sV f l=l.map f
 | []=>rfl
 | a::l=>by show f a::sV f l=_;rw[pH f l];rfl
theorem mz:∀(n:Nat) (l:List α),oo n l=l.drop n
 | 0,l=>rfl
 | n+1,[]=>by rfl
 | n+1,a::l=>by show oo n l=_;rw[mz n l];rfl
theorem jc:∀{n:Nat} {l r:List α},tV n l=some r->n<=l.length/\r=l.take n
 | 0,l,r,h=>by cases(show some []=some r from h);simp
 | n+1,[],r,h=>nomatch (show none=some r from h)
 | n+1,a::l,r,h=>by
  obtain⟨z,hz,b⟩:=aB.1 (show oB (tV n l) (λz=>some (a::z))=some r from h);cases b;obtain⟨h1,c⟩:=jc hz;grind
theorem dV {f:α->Bool}:∀{l:List α},jA f l↔∀x∈l,f x
 | []=>by simp[jA]
 | a::l=>by
  show Bool.rec (motive:=λ_=>Bool) false (jA f l) (f a)↔_
  have:=dV (f:=f) (l:=l);cases h:f a<;>simp[h,this]
theorem wC:∀{a cs r:List α},JH a cs=some r->a.length<=cs.length/\r.length=cs.length/\∀i,r[i]?=if i<a.length then a[i]? else cs[i]?
 | [],cs,r,h=>by cases(show some cs=some r from h);simp
 | v::a,[],r,h=>nomatch (show none=some r from h)
 | v::a,c::cs,r,h=>by
  obtain⟨z,hz,b⟩:=aB.1 (show oB (JH a cs) (λz=>some (v::z))=some r from h);cases b;obtain⟨h1,d,e⟩:=wC hz;grind
theorem jd:∀{n:Nat} {a cs r:List α},C5 n a cs=some r->n+a.length<=cs.length/\r.length=cs.length/\∀i,r[i]?=if n<=i/\i<n+a.length then a[i-n]? else cs[i]?
 | 0,a,cs,r,h=>by
  obtain⟨h1,b,d⟩:=wC (show JH a cs=some r from h);grind
 | n+1,a,[],r,h=>nomatch (show none=some r from h)
 | n+1,a,c::cs,r,h=>by
  obtain⟨z,hz,e⟩:=aB.1 (show oB (C5 n a cs) (λz=>some (c::z))=some r from h);cases e;obtain⟨h1,b,d⟩:=jd hz;grind
def zF (n:Nat) (z:List α):L9 (n+1) z=z++L9 n z:=fE _ _
end
theorem l4 {a b:Bool} (h:Bool.and a b):a/\b:=by grind
theorem or2 {a b:Bool} (h:Bool.or a b):a\/b:=by grind
structure MI where
 bN:Nat
 sh:Nat
 qE:Nat
 je:Nat
 len:Nat
 real:Bool
structure Pm (D:Data) where
 pl:Nat->Option MI
 sg:Nat->Nat->Option (AV D.E)
def ck {D:Data} (M:Pm D) (b o c:Nat) (xs:List (D.E c)):Prop:=∀(i:Nat) (hi:i<xs.length) (j:Nat) (v:AV D.E),(D.aX c xs[i])[j]?=some v->M.sg b (o+i*D.size c+j)=some v
inductive VR {D:Data} (M:Pm D):AV D.E->Value->Prop
 | bool (b:Bool):VR M (.bool b) (.bool b)
 | lit (b:Bool):VR M (.lit b) (.bool b)
 | int {k:IntKind} {n:Int} (h:mv k n=true):VR M (.int k n) (.int k n)
 | num {k:IntKind} {n:Int} (h:mv k n=true):VR M (.num k n) (.int k n)
 | str {s:List UInt8} (h:s.length<=9223372036854775807):VR M (.str s) (.string ⟨⟨s⟩⟩)
 | fD:VR M .fD (.pointer none)
 | ptr {b o:Nat} {mi:MI} (h:M.pl b=some mi) (hr:mi.real=true):VR M (.ptr b o) (.pointer (some ⟨mi.bN,mi.sh+o,none⟩))
 | kD (g o:Nat):VR M (.kD g o) (.pointer (some ⟨g,o,none⟩))
 | mj {b k i j:Nat} {mi:MI} (h:M.pl b=some mi) (hr:mi.real=true) (hk:mi.je=k) (hi:i<mi.len):VR M (.mj b k i j) (.pointer (some ⟨mi.bN,mi.sh+i*k+j,none⟩))
 | nr {c:Nat} {x:D.E c} {b o j:Nat} (h:∀(i:Nat) (v:AV D.E),(D.aX c x)[i]?=some v->M.sg b (o+i)=some v):VR M (.nr c x j) (.pointer (some ⟨b,o+j,none⟩))
 | cF:VR M .cF (.slice none 0 0)
 | own {b k cap:Nat} {n:Int} {mi:MI} (h:M.pl b=some mi) (hk:mi.je=k) (hr:mi.real=true) (hn:n=mi.len) (hm:mi.len<=9223372036854775807) (hc:mi.len<=cap) (ht:mi.sh+cap*mi.je=mi.qE):VR M (.own b k n) (.slice (some ⟨mi.bN,mi.sh,none⟩) mi.len cap)
 | l5 {b k:Nat} {n:Int} {mi:MI} (h:M.pl b=some mi) (hk:mi.je=k) (hr:mi.real=false) (hn:n=0) (hl:mi.len=0):VR M (.own b k n) (.slice none 0 0)
 | pre {b k l cap:Nat} {n:Int} {mi:MI} (h:M.pl b=some mi) (hk:mi.je=k) (hr:mi.real=true) (hn:n=l) (hm:mi.len<=9223372036854775807) (hl:l<=mi.len) (hc:mi.len<=cap) (ht:mi.sh+cap*mi.je=mi.qE):VR M (.pre b k n) (.slice (some ⟨mi.bN,mi.sh,none⟩) l cap)
 | oP {b k:Nat} {n:Int} {mi:MI} (h:M.pl b=some mi) (hk:mi.je=k) (hr:mi.real=false) (hn:n=0) (hl:mi.len=0):VR M (.pre b k n) (.slice none 0 0)
 | part {b k l cap:Nat} {o n:Int} {mi:MI} (h:M.pl b=some mi) (hk:mi.je=k) (hr:mi.real=true) (hn:n=l) (ho:0<=o) (hl:o.toNat+l<=mi.len) (hm:mi.len<=9223372036854775807) (hc:l<=cap):VR M (.part b k o n) (.slice (some ⟨mi.bN,mi.sh+o.toNat*mi.je,none⟩) l cap)
 | jB {b k c:Nat} {o n:Int} {mi:MI} {a:Option Addr} (h:M.pl b=some mi) (hk:mi.je=k) (hn:n=0) (ho:0<=o):VR M (.part b k o n) (.slice a 0 c)
 | grow {c b cap:Nat} {xs:List (D.E c)} {mi:MI} (h:M.pl b=some mi) (hr:mi.real=true) (hl:mi.len=xs.length) (hz:mi.je=D.size c) (hs:ck M mi.bN mi.sh c xs) (hm:xs.length<=9223372036854775807) (hc:xs.length<=cap) (ht:mi.sh+cap*mi.je=mi.qE):
   VR M (.grow c xs b) (.slice (some ⟨mi.bN,mi.sh,none⟩) xs.length cap)
 | j5 {c b:Nat} {mi:MI} (h:M.pl b=some mi) (hr:mi.real=false):VR M (.grow c [] b) (.slice none 0 0)
 | sub {b o n cap:Nat} {mi:MI} (h:M.pl b=some mi) (hr:mi.real=true) (hc:n<=cap) (hm:n<=9223372036854775807):VR M (.sub b o n) (.slice (some ⟨mi.bN,mi.sh+o,none⟩) n cap)
 | oQ {b o cap:Nat} {a:Addr}:VR M (.sub b o 0) (.slice (some a) 0 cap)
 | list {c b o cap:Nat} {xs:List (D.E c)} (hs:ck M b o c xs) (hm:xs.length<=9223372036854775807) (hc:xs.length<=cap):VR M (.list c xs) (.slice (some ⟨b,o,none⟩) xs.length cap)
 | fh {c cap:Nat} {a:Option Addr}:VR M (.list c []) (.slice a 0 cap)
 | qm:VR M .qm (.map none)
 | map {r:Nat} {mi:MI} (h:M.pl r=some mi):VR M (.map r) (.map (some mi.bN))
 | nilFunc:VR M .nilFunc .nilFunc
 | nilIface:VR M .nilIface .nilIface
 | iface (t:TypeId) {v:AV D.E} {v':Value} (h:VR M v v'):VR M (.iface t v) (.iface t v')
 | agg {c:List (AV D.E)} {c':Array Value} (hl:c.length=c'.toList.length) (h:∀(i:Nat) (v:AV D.E) (v':Value),c[i]?=some v->c'.toList[i]?=some v'->VR M v v'):VR M (.agg c) (.agg c')
 | tuple {c:List (AV D.E)} {c':Array Value} (hl:c.length=c'.toList.length) (h:∀(i:Nat) (v:AV D.E) (v':Value),c[i]?=some v->c'.toList[i]?=some v'->VR M v v'):VR M (.tuple c) (.tuple c')
 | func (fn:Fn) {f c:List (AV D.E)} {f' c':Array Value} (hl:f.length=f'.toList.length) (h:∀(i:Nat) (v:AV D.E) (v':Value),f[i]?=some v->f'.toList[i]?=some v'->VR M v v')
   (hl2:c.length=c'.toList.length) (h2:∀(i:Nat) (v:AV D.E) (v':Value),c[i]?=some v->c'.toList[i]?=some v'->VR M v v'):VR M (.func fn f c) (.func fn f' c')
section
variable {D:Data} {M M':Pm D}
variable {c:List Value} {l:List (AV D.E)} {v:AV D.E} {p:Value}
variable {b:List Value}
def LR (M:Pm D) (l:List (AV D.E)) (a:List Value):Prop:=l.length=a.length/\∀(i:Nat) (v:AV D.E) (b:Value),l[i]?=some v->a[i]?=some b->VR M v b
def Gs (M a:Pm D):Prop:=∀b o v,M.sg b o=some v->a.sg b o=some v
def Le (M a:Pm D):Prop:=(∀b c,M.pl b=some c->a.pl b=some c)/\Gs M a
theorem Le.refl (M:Pm D):Le M M:=⟨λ_ _ h=>h,λ_ _ _ h=>h⟩
def ck.mono (a:Gs M M') {b o c:Nat} {xs:List (D.E c)} (h:ck M b o c xs):ck M' b o c xs:=λi hi j v e=>a _ _ _ (h i hi j v e)
theorem VR.mono (c:Le M M') (h:VR M v p):VR M' v p:=by
 induction h with
 | bool b=>exact .bool b
 | lit b=>exact .lit b
 | int h=>exact .int h
 | num h=>exact .num h
 | str h=>exact .str h
 | fD=>exact .fD
 | ptr h a=>exact .ptr (c.1 _ _ h) a
 | kD g o=>exact .kD g o
 | mj h a hk hi=>exact .mj (c.1 _ _ h) a hk hi
 | nr h=>exact .nr λi v e=>c.2 _ _ _ (h i v e)
 | cF=>exact .cF
 | own h hk a j f d ht=>exact .own (c.1 _ _ h) hk a j f d ht
 | l5 h hk a j hl=>exact .l5 (c.1 _ _ h) hk a j hl
 | pre h hk a j f hl d ht=>exact .pre (c.1 _ _ h) hk a j f hl d ht
 | oP h hk a j hl=>exact .oP (c.1 _ _ h) hk a j hl
 | part h hk a j m hl f d=>exact .part (c.1 _ _ h) hk a j m hl f d
 | jB h hk j m=>exact .jB (c.1 _ _ h) hk j m
 | grow h a hl hz hs f d ht=>exact .grow (c.1 _ _ h) a hl hz (hs.mono c.2) f d ht
 | j5 h a=>exact .j5 (c.1 _ _ h) a
 | sub h a d f=>exact .sub (c.1 _ _ h) a d f
 | oQ=>exact .oQ
 | list hs f d=>exact .list (hs.mono c.2) f d
 | fh=>exact .fh
 | qm=>exact .qm
 | map h=>exact .map (c.1 _ _ h)
 | nilFunc=>exact .nilFunc
 | nilIface=>exact .nilIface
 | iface t _ k=>exact .iface t k
 | agg hl _ k=>exact .agg hl k
 | tuple hl _ k=>exact .tuple hl k
 | func fn hl _ l _ k n=>exact .func fn hl k l n
def LR.mono (d:Le M M') (h:LR M l c):LR M' l c:=⟨h.1,λi v e a b=>(h.2 i v e a b).mono d⟩
theorem LR.nil:LR M [] []:=⟨rfl,λi v a h=>by simp at h⟩
def LR.cons (h:VR M v p) (hl:LR M l c):LR M (v::l) (p::c):=
 ⟨by simp[hl.1],λi u e a b=>by
  cases i with
  | zero=>simp at a b;subst a;subst b;exact h
  | succ i=>exact hl.2 i u e (by simpa using a) (by assumption)⟩
theorem LR.bX (h:LR M (v::l) c):∃d r,c=d::r/\VR M v d/\LR M l r:=by
 have⟨hl,e⟩:=h;cases c with
 | nil=>simp at hl
 | cons d r=>exact⟨d,r,rfl,e 0 v d rfl rfl,by grind,λi u f a b=>e (i+1) u f (by simpa using a) (by simpa using b)⟩
def LR.oq (h:LR M [] c):c=[]:=Zap h.1.symm
def LR.get (h:LR M l c) {i:Nat} (b:l[i]?=some v):∃a,c[i]?=some a/\VR M v a:=by
 have hi:i<c.length:=by rw[<-h.1];exact(Zam.1 b).1
 exact⟨_,Zaf hi,h.2 i v _ b (Zaf hi)⟩
def LR.app {f:List (AV D.E)} (h:LR M l c) (k:LR M f b):LR M (l++f) (c++b):=by
 refine⟨by simp[h.1,k.1],λi v g e d=>?_⟩;by_cases hi:i<l.length
 ·rw[Zat hi] at e;rw[Zat (by rw[<-h.1];exact hi)] at d;exact h.2 i v g e d
 ·rw[Zaz ω] at e;rw[Zaz (by rw[<-h.1];omega),<-h.1] at d;exact k.2 _ v g e d
theorem LR.drop (h:LR M l b) (n:Nat):LR M (l.drop n) (b.drop n):=
 ⟨by simp[h.1],λi v c e d=>h.2 (n+i) v c (by grind) (by grind)⟩
def LR.take (h:LR M l c) (n:Nat):LR M (l.take n) (c.take n):=
 ⟨by simp[h.1],λi v d e b=>by
  rw[Za7] at e b;split at e
  ·rename_i hi;rw[Zac hi] at b;exact h.2 i v d e b
  ·cases e⟩
def VR.Df (h:LR M l c):VR M (.agg l) (.agg ⟨c⟩):=.agg h.1 h.2
def VR.Dg (h:LR M l c):VR M (.tuple l) (.tuple ⟨c⟩):=.tuple h.1 h.2
def VR.undef:VR M (sx.undef:AV D.E) Go.undef:=.tuple rfl (λi v a h=>by cases h)
theorem fi (h:VR M v p):LR M (dg v) p.cells.toList:=by
 have hs:∀(u:AV D.E) (a:Value),VR M u a->LR M [u] [a]:=λu a k=>.cons k .nil
 cases h
 case agg hl h=>exact⟨hl,h⟩
 all_goals (exact hs _ _ (by constructor<;>assumption))
def QdH (h:VR M v p) (h1:one v):p.oneCell':=by
 cases h<;>first | rfl | cases h1
theorem s5 (h:LR M l c) (h1:jA one l):∀v∈c,v.oneCell':=by
 intro d b;have⟨i,hi⟩:=List.mem_iff_getElem?.1 b;have a:i<l.length:=by rw[h.1];exact(Zam.1 hi).1
 exact QdH (h.2 i _ d (Zaf a) hi) (dV.1 h1 _ (Zas a))
def mA (v:AV D.E):Bool:=match v with
 | .bool _=>true | .lit _=>true | .int _ _=>true | .num _ _=>true | .str _=>true | .fD=>true | .kD _ _=>true | .nr _ _ _=>true | .cF=>true | .list _ _=>true | .qm=>true | .nilFunc=>true | .nilIface=>true
 | .func _ f c=>f.isEmpty&&c.isEmpty
 | _=>false
theorem VR.pure {v':Value} (h:VR M v v') (d:mA v) (j:Gs M M'):VR M' v v':=by
 cases h<;>first | (cases d;done) | skip
 case bool b=>exact .bool b
 case lit b=>exact .lit b
 case int h=>exact .int h
 case num h=>exact .num h
 case str h=>exact .str h
 case fD=>exact .fD
 case kD g o=>exact .kD g o
 case nr h=>exact .nr λi v e=>j _ _ _ (h i v e)
 case cF=>exact .cF
 case list hs l k=>exact .list (hs.mono j) l k
 case fh=>exact .fh
 case qm=>exact .qm
 case nilFunc=>exact .nilFunc
 case nilIface=>exact .nilIface
 case func fn f c n m hl h a p=>
  simp only[mA,ZaW,List.isEmpty_iff] at d;obtain⟨rfl,rfl⟩:=d;exact .func fn hl (λi v v' e=>by simp at e) a (λi v v' e=>by simp at e)
end
structure aP (D:Data):Prop where
 len:∀c x,(D.aX c x).length=D.size c
 one:∀c x,∀v∈D.aX c x,one v=true/\mA v=true
 dec:∀c row x,D.dec c row=some x->row.length=D.size c/\∀(j:Nat) (a a':AV D.E),row[j]?=some a->(D.aX c x)[j]?=some a'->∀(M:Pm D) (v:Value),VR M a v->VR M a' v
 b1:D.size D.bc=1
 bl:∀xs,(D.yL xs).length=xs.length
 be:∀(xs:List (D.E D.bc)) (i:Nat) (h:i<xs.length),D.aX D.bc xs[i]=[.int .u8 ((D.yL xs)[i]'(by rw[bl];exact h)).toNat]
 bo:∀l,D.yL (D.ofB l)=l
section
variable {D:Data}
variable {M:Pm D} {c:MI} {w:World} {o:AO D.E}
def aM (c:Nat) (xs:List (D.E c)):List (AV D.E):=xs.flatMap (D.aX c)
def OE (M:Pm D) (a:MI) (w:World) (cs:List (AV D.E)) (e:TypeId) (ro:Bool):Prop:=∃C b,w.heap[a.bN]?=some (.cells C e b)/\C.size=a.qE/\a.sh+cs.length<=a.qE/\
 (∀(i:Nat) (v:AV D.E),cs[i]?=some v->∃c,C[a.sh+i]?=some c/\VR M v c)/\(ro=false->b.1=b.2\/a.qE<=b.1/\a.je=1)
def OR (M:Pm D) (o:AO D.E) (a:MI) (w:World):Prop:=match o with
 | .cells cs e ro=>(a.real/\a.sh=0/\a.qE=cs.length)/\OE M a w cs e ro
 | .arr c xs e ro=>a.len=xs.length/\a.je=D.size c/\(a.real->OE M a w (aM c xs) e ro)
 | .tok c e=>a.je=D.size c/\(a.real->∃C b,w.heap[a.bN]?=some (.cells C e b)/\C.size=a.qE/\a.sh+a.len*a.je<=a.qE/\(b.1=b.2\/a.qE<=b.1/\a.je=1))
def AO.wr {E:Nat->Type} (o:AO E):Bool:=match o with
 | .cells _ _ ro=>!ro
 | .arr _ _ _ ro=>!ro
 | .tok _ _=>true
def AO.s6 {E:Nat->Type} (o:AO E) (a:MI) (j:Nat):Prop:=match o with
 | .tok _ _=>a.sh+a.len*a.je<=j
 | _=>True
def OE.mono {d:Pm D} (n:Le M d) {cs:List (AV D.E)} {e:TypeId} {ro:Bool} {f:World} (hw:f.heap[c.bN]?=w.heap[c.bN]?) (h:OE M c w cs e ro):OE d c f cs e ro:=by
 have⟨C,g,h1,j,k,l,m⟩:=h;exact⟨C,g,hw.trans h1,j,k,λi v e=>let ⟨o,a,b⟩:=l i v e;⟨o,a,b.mono n⟩,m⟩
theorem OR.mono {d:Pm D} (f:Le M d) {g:World} (hw:c.real->g.heap[c.bN]?=w.heap[c.bN]?) (h:OR M o c w):OR d o c g:=by
 cases o with
 | cells cs e ro=>exact⟨h.1,h.2.mono f (hw h.1.1)⟩
 | arr b xs e ro=>exact⟨h.1,h.2.1,λa=>(h.2.2 a).mono f (hw a)⟩
 | tok b e=>exact⟨h.1,λa=>let ⟨C,i,h1,j⟩:=h.2 a;⟨C,i,(hw a).trans h1,j⟩⟩
theorem OR.lt (h:OR M o c w) (d:c.real):c.bN<w.heap.size:=by
 have:∃x,w.heap[c.bN]?=some x:=by
  cases o with
  | cells cs e ro=>have⟨_,C,b,h1,_⟩:=h;exact⟨_,h1⟩
  | arr a xs e ro=>have⟨C,b,h1,_⟩:=h.2.2 d;exact⟨_,h1⟩
  | tok a e=>have⟨C,b,h1,_⟩:=h.2 d;exact⟨_,h1⟩
 grind
abbrev Hp (D:Data):=Nat->Option (AO D.E)
structure ey (M:Pm D) (H:Hp D) (w:World):Prop where
 obj:∀b o,H b=some o->∃mi,M.pl b=some mi/\OR M o mi w
 inj:∀b b' o o' mi Mc,H b=some o->H b'=some o'->M.pl b=some mi->M.pl b'=some Mc->mi.real=true->Mc.real=true->mi.bN=Mc.bN->b=b'
 gE:∀b o v,M.sg b o=some v->mA v=true/\∃v',w.cell? ⟨b,o,none⟩=some v'/\VR M v v'
 sep:∀b o mi,H b=some o->o.wr=true->M.pl b=some mi->mi.real=true->∀j,o.s6 mi j->M.sg mi.bN j=none
 J2:∀b c xs e mi,H b=some (.arr c xs e true)->M.pl b=some mi->mi.real=true->ck M mi.bN mi.sh c xs
 ml:(D.ng<=w.heap.size/\D.gw w)/\∀b o mi,H b=some o->o.wr=true->M.pl b=some mi->mi.real=true->D.ng<=mi.bN
def bR (M:Pm D) (lo hi:Nat):Prop:=∀b,lo<=b->b<hi->M.pl b=none
def Md (H:Hp D) (M:Pm D) (c:Nat):Prop:=∃b o a,H b=some o/\o.wr/\M.pl b=some a/\a.real/\a.bN=c
structure cL (H:Hp D) (M:Pm D) (w:World) (H':Hp D) (M':Pm D) (w':World) (lo hi:Nat):Prop where
 gn:ey M' H' w'
 ext:∀b,¬(lo<=b/\b<hi)->M'.pl b=M.pl b
 J3:Gs M M'
 lJ:∀b o,M'.sg b o≠none->M.sg b o≠none\/w.heap.size<=b\/Md H M b
 size:w.heap.size<=w'.heap.size
 aH:∀c,c<w.heap.size->¬Md H M c->w'.heap[c]?=w.heap[c]?
 born:∀b o mi,H' b=some o->M'.pl b=some mi->mi.real=true->w.heap.size<=mi.bN\/∃b0 o0 rA,H b0=some o0/\M.pl b0=some rA/\rA.real=true/\rA.bN=mi.bN/\(o.wr=true->o0.wr=true)
 Me:∀b,H' b≠none->H b≠none\/(lo<=b/\b<hi)
 os:w'.os=w.os
 tape:w'.tape=w.tape
 output:w'.output=w.output
 le:lo<=hi
section
variable {H H' H'':Hp D} {M M' M'':Pm D} {w w' w'':World} {lo mid hi:Nat}
variable {b o:Nat}
def cL.Le (h:cL H M w H' M' w' lo hi) (d:bR M lo hi):sx.Le M M':=⟨λb e a=>by
 rw[h.ext b (λc=>by rw[d b c.1 c.2] at a;cases a)];exact a,h.J3⟩
theorem cL.refl (h:ey M H w) (lo:Nat):cL H M w H M w lo lo:=
 ⟨h,λ_ _=>rfl,λ_ _ _ h=>h,λ_ _ h=>.inl h,Zah _,λ_ _ _=>rfl,λb o e a c d=>.inr ⟨b,o,e,a,c,d,rfl,id⟩,λf a=>.inl a,rfl,rfl,rfl,Zah _⟩
def cL.wrt (h:cL H M w H' M' w' lo hi) (j:Md H' M' b):w.heap.size<=b\/Md H M b:=by
 obtain⟨c,o,p,i,m,l,n,rfl⟩:=j;rcases h.born c o p i l n with hs | ⟨g,q,f,a,d,e,k,hw⟩
 ·omega
 ·exact .inr ⟨g,q,f,a,hw m,d,e,k⟩
theorem cL.trans (h:cL H M w H' M' w' lo mid) (k:cL H' M' w' H'' M'' w'' mid hi):cL H M w H'' M'' w'' lo hi:=by
 have h1:=h.le;have m:=k.le;refine⟨k.gn,λb d=>?_,λb o v e=>k.J3 _ _ _ (h.J3 _ _ _ e),λb o d=>?_,Zav h.size k.size,λc l s=>?_,λb o y d q t=>?_,λb d=>?_,k.os.trans h.os,k.tape.trans h.tape,k.output.trans h.output,Zav h1 m⟩
 ·rw[k.ext b ω,h.ext b ω]
 ·rcases k.lJ b o d with a | a | a
  ·exact h.lJ b o a
  ·exact .inr (.inl (Zav h.size a))
  ·exact .inr (h.wrt a)
 ·rw[k.aH c (ZbB l h.size) λhw=>?_,h.aH c l s];rcases h.wrt hw with a | a
  ·omega
  ·grind
 ·rcases k.born b o y d q t with hs | ⟨b1,o1,j,lK,g,i,p,x⟩
  ·exact .inl (Zav h.size hs)
  ·rcases h.born b1 o1 j lK g i with hs | ⟨A,C,z,n,r,u,B,hw⟩
   ·omega
   ·grind
 ·rcases k.Me b d with lK | lK
  ·rcases h.Me b lK with f | f
   ·grind
   ·omega
  ·omega
theorem cL.frame {K z:Hp D} (h:cL K M w z M' w' lo hi) (r:ey M H w) (Z:bR M lo hi) (O:∀b o,K b=some o->H b=some o) (N:∀b,H' b=if K b=none/\z b=none then H b else z b):
  cL H M w H' M' w' lo hi:=by
 have k:=h.Le Z;have P:∀b o,H b=some o->∃a,M.pl b=some a:=λb o d=>let ⟨a,g,_⟩:=r.obj b o d;⟨a,g⟩
 have Q:∀c,Md K M c->Md H M c:=λc ⟨b,o,a,d,Y⟩=>⟨b,o,a,O _ _ d,Y⟩
 have p:∀b o,H' b=some o->(z b=some o)\/(K b=none/\z b=none/\H b=some o):=by
  grind
 have S:∀b o a,H b=some o->K b=none->M.pl b=some a->a.real->¬Md K M a.bN:=by
  rintro b o a d hk g l ⟨n,u,i,s,_,m,q,e⟩;have:=r.inj n b u o i a (O _ _ s) d m g q l e;grind
 have hold:∀b o a,H b=some o->K b=none->M.pl b=some a->a.real->w'.heap[a.bN]?=w.heap[a.bN]?:=by
  intro b o a d hk g l;have⟨i,m,x⟩:=r.obj b o d;rw[g] at m;cases m;exact h.aH _ (x.lt l) (S b o a d hk g l)
 refine⟨⟨λb o d=>?_,λb n o u a i d s g m l q L=>?_,h.gn.gE,λb o a d x g l j V=>?_,λb c xs e a d g l=>?_,h.gn.ml.1,λb o a d x g l=>?_⟩,h.ext,h.J3,λb o d=>?_,h.size,λc R hn=>?_,λb o a d g l=>?_,λb d=>?_,h.os,h.tape,h.output,h.le⟩
 ·rcases p b o d with hk | ⟨hk,_,d⟩
  ·exact h.gn.obj b o hk
  ·have⟨a,g,x⟩:=r.obj b o d;exact⟨a,k.1 _ _ g,x.mono k (hold b o a d hk g)⟩
 ·have W:∀b n o u a i,z b=some o->(K n=none/\z n=none/\H n=some u)->M'.pl b=some a->M'.pl n=some i->a.real->i.real->a.bN=i.bN->b=n:=by
   intro b n o u a i hk ⟨hk1,hk2,s⟩ g m l q L;have⟨t,f,A⟩:=r.obj n u s;have:=k.1 _ _ f;rw[m] at this;cases this;rcases h.born b o a hk g l with hs | ⟨T,X,J,C,F,I,E,_⟩
   ·have:=A.lt q;omega
   ·have e2:=r.inj T n X u J i (O _ _ C) s F f I q (E.trans L);grind
  rcases p b o d with hk | hk<;>rcases p n u s with y | y
  ·exact h.gn.inj b n o u a i hk y g m l q L
  ·grind
  ·grind
  ·have⟨t,f,_⟩:=r.obj b o hk.2.2;have⟨mi3,G,_⟩:=r.obj n u y.2.2;have e2:=k.1 _ _ f;have U:=k.1 _ _ G;rw[g] at e2;rw[m] at U;cases e2;cases U;exact r.inj b n o u a i hk.2.2 y.2.2 f G l q L
 ·rcases p b o d with hk | ⟨hk,_,d⟩
  ·exact h.gn.sep b o a hk x g l j V
  ·have⟨t,f,A⟩:=r.obj b o d;have e2:=k.1 _ _ f;rw[g] at e2;cases e2;cases hs:M'.sg a.bN j with
   | none=>rfl
   | some v=>
    exfalso;rcases h.lJ a.bN j (by grind) with B | B | B
    ·exact B (r.sep b o a d x f l j V)
    ·have:=A.lt l;omega
    ·grind
 ·rcases p b _ d with hk | ⟨hk,_,d⟩
  ·exact h.gn.J2 b c xs e a hk g l
  ·have⟨t,f⟩:=P b _ d;have e2:=k.1 _ _ f;rw[g] at e2;cases e2;exact(r.J2 b c xs e a d f l).mono k.2
 ·rcases p b o d with hk | ⟨hk,_,d⟩
  ·exact h.gn.ml.2 b o a hk x g l
  ·have⟨t,f⟩:=P b o d;have e2:=k.1 _ _ f;rw[g] at e2;cases e2;exact r.ml.2 b o a d x f l
 ·rcases h.lJ b o d with B | B | B
  ·grind
  ·omega
  ·grind
 ·exact h.aH c R λhw=>hn (Q _ hw)
 ·rcases p b o d with hk | ⟨hk,_,d⟩
  ·rcases h.born b o a hk g l with hs | ⟨T,X,J,C,F,I,E,hw⟩
   ·omega
   ·grind
  ·have⟨t,f⟩:=P b o d;have e2:=k.1 _ _ f;grind
 ·rw[N b] at d;by_cases R:K b=none/\z b=none
  ·grind
  ·rw[Zaa R] at d;rcases h.Me b d with hk | hk
   ·have⟨o,x⟩:=Zbs.1 hk;grind
   ·omega
theorem kG {w a:World} (h:a.heap[b]?=w.heap[b]?):a.cell? ⟨b,o,none⟩=w.cell? ⟨b,o,none⟩:=by
 grind [World.cell?]
theorem ey.slt (a:ey M H w) {v:AV D.E} (h:M.sg b o=some v):b<w.heap.size:=by
 have⟨_,d,c,_⟩:=a.gE b o v h;grind [World.cell?]
def cL.world (a:ey M H w) (h1:w.heap.size<=w'.heap.size) (g:∀c,c<w.heap.size->w'.heap[c]?=w.heap[c]?) (m:w'.os=w.os) (n:w'.tape=w.tape) (p:w'.output=w.output) (lo:Nat):cL H M w H M w' lo lo:=
 ⟨⟨λb o d=>let ⟨k,i,l⟩:=a.obj b o d;⟨k,i,l.mono (.refl M) λj=>g _ (l.lt j)⟩,a.inj,λb o v e=>let ⟨q,s,f,r⟩:=a.gE b o v e;⟨q,s,(kG (g _ (a.slt e))).trans f,r⟩,a.sep,a.J2,⟨Zav a.ml.1.1 h1,D.gst _ _ (λc f=>g c (ZbB f a.ml.1.1)) a.ml.1.2⟩,a.ml.2⟩,
  λ_ _=>rfl,λ_ _ _ h=>h,λ_ _ h=>.inl h,h1,λc f _=>g c f,λb o k d i j=>.inr ⟨b,o,k,d,i,j,rfl,id⟩,λt d=>.inl d,m,n,p,Zah _⟩
def cL.vu (a:ey M H w) (lo:Nat):cL H M w H M w.drew lo lo:=.world (w':=w.drew) a (Zah _) (λ_ _=>rfl) rfl rfl rfl lo
def iY (H:Hp D) (b:Nat) (o:Option (AO D.E)):Hp D:=λc=>if c=b then o else H c
def Pm.add (M:Pm D) (b:Nat) (mi:MI):Pm D:=⟨λc=>if c=b then some mi else M.pl c,M.sg⟩
def Pm.qK {mi:MI} (d:M.pl b=none):sx.Le M (M.add b mi):=⟨λc m a=>by
 show(if c=b then some mi else M.pl c)=some m
 by_cases e:c=b
 ·subst e;rw[d] at a;cases a
 ·rw[Zaa e];exact a,λ_ _ _ h=>h⟩
theorem cL.nt (a:ey M H w) (C:M.pl lo=none) (o:AO D.E) (mi:MI) (t:mi.real->mi.bN=w.heap.size) (cI:w.heap.size<=w'.heap.size) (hblk:∀c,c<w.heap.size->w'.heap[c]?=w.heap[c]?)
  (x:w'.os=w.os) (y:w'.tape=w.tape) (z:w'.output=w.output) (I:OR (M.add lo mi) o mi w')
  (L:∀c xs e,o=.arr c xs e true->mi.real->ck (M.add lo mi) mi.bN mi.sh c xs:=by intro _ _ _ h;cases h):
  cL H M w (iY H lo (some o)) (M.add lo mi) w' lo (lo+1):=by
 have f:sx.Le M (M.add lo mi):=Pm.qK C;have k:∀m,(M.add lo mi).pl lo=some m->m=mi:=λm h=>by grind [Pm.add]
 have hold:∀b m,b≠lo->(M.add lo mi).pl b=some m->M.pl b=some m:=λb m e h=>by grind [Pm.add]
 refine⟨⟨λb i h=>?_,λb r o1 O m1 m2 h1 s u e2 P Q B=>?_,λb i v e=>?_,λb i m h hw e d j F=>?_,λb c xs e m h n d=>?_,⟨Zav a.ml.1.1 cI,D.gst _ _ (λc l=>hblk c (ZbB l a.ml.1.1)) a.ml.1.2⟩,λb i m h hw e d=>?_⟩,λb A=>?_,f.2,λb i h=>.inl h,cI,λc l _=>hblk c l,λb i m h e d=>?_,λb h=>?_,x,y,z,ZcR _⟩
 ·by_cases e:b=lo
  ·subst e;simp only[iY] at h;cases h;exact⟨mi,by simp[Pm.add],I⟩
  ·simp only[iY,Zaa e] at h;have⟨m,n,g⟩:=a.obj b i h;exact⟨m,f.1 _ _ n,g.mono f λd=>hblk _ (g.lt d)⟩
 ·have G:∀b o m,b≠lo->H b=some o->M.pl b=some m->m.real->mi.real->m.bN≠mi.bN:=λb o m e h n d K=>by
   have⟨S,p,g⟩:=a.obj b o h;rw[n] at p;cases p;have:=g.lt d;grind
  by_cases e:b=lo<;>by_cases q:r=lo
  ·rw[e,q]
  ·grind [iY]
  ·grind [iY]
  ·simp only[iY,Zaa e,Zaa q] at h1 s;exact a.inj b r o1 O m1 m2 h1 s (hold _ _ e u) (hold _ _ q e2) P Q B
 ·have⟨J,R,l,N⟩:=a.gE b i v e;exact⟨J,R,(kG (hblk _ (a.slt e))).trans l,N.mono f⟩
 ·by_cases e2:b=lo
  ·subst e2;have:=k _ e;subst this;cases hs:M.sg m.bN j with
   | none=>exact hs
   | some v=>have:=a.slt hs;have:=t d;omega
  ·simp only[iY,Zaa e2] at h;exact a.sep b i m h hw (hold _ _ e2 e) d j F
 ·by_cases e2:b=lo
  ·grind [iY]
  ·simp only[iY,Zaa e2] at h;exact(a.J2 b c xs e m h (hold _ _ e2 n) d).mono f.2
 ·by_cases e2:b=lo
  ·subst e2;have:=k _ e;subst this;rw[t d];exact a.ml.1.1
  ·simp only[iY,Zaa e2] at h;exact a.ml.2 b i m h hw (hold _ _ e2 e) d
 ·show(if b=lo then some mi else M.pl b)=M.pl b
  grind
 all_goals grind [iY]
theorem cL.alloc (b:ey M H w) (g:M.pl lo=none) (o:AO D.E) (ob:Obj) (mi:MI) (d:mi.bN=w.heap.size) (i:OR (M.add lo mi) o mi (w.alloc ob))
  (a:∀c xs e,o=.arr c xs e true->mi.real->ck (M.add lo mi) mi.bN mi.sh c xs:=by intro _ _ _ h;cases h):
  cL H M w (iY H lo (some o)) (M.add lo mi) (w.alloc ob) lo (lo+1):=
 cL.nt b g o mi (λ_=>d) (by simp) (λc f=>Below.heap_alloc _ _ _ f) rfl rfl rfl i a
theorem cL.upon {b0 b1:Nat} {o0 o1:AO D.E} {rA BC:MI} {M1:Pm D} {sg1:Nat->Nat->Option (AV D.E)} (i:ey M H w) (z:H b0=some o0) (t:o0.wr) (B:M.pl b0=some rA) (l:rA.real) (hr1:BC.real) (hblk:BC.bN=rA.bN)
  (r:M1=⟨λc=>if c=b1 then some BC else M.pl c,sg1⟩)
  (hnm:(b1=b0/\BC=rA/\hi=lo)\/(b1=lo/\M.pl lo=none/\hi=lo+1))
  (C:∀b o v,M.sg b o=some v->sg1 b o=some v) (k:∀b o,sg1 b o≠none->M.sg b o≠none\/b=rA.bN)
  (cI:w'.heap.size=w.heap.size) (hk:∀c,c≠rA.bN->w'.heap[c]?=w.heap[c]?) (V:w'.os=w.os) (W:w'.tape=w.tape) (X:w'.output=w.output)
  (ho:OR M1 o1 BC w') (hse:∀o v,sg1 rA.bN o=some v->mA v/\∃F,w'.cell? ⟨rA.bN,o,none⟩=some F/\VR M1 v F) (S:o1.wr->∀j,o1.s6 BC j->sg1 BC.bN j=none)
  (hro:∀c xs e,o1=.arr c xs e true->ck M1 BC.bN BC.sh c xs:=by intro _ _ _ h;cases h):
  cL H M w (λc=>if c=b1 then some o1 else if c=b0 then none else H c) M1 w' lo hi:=by
 have R:b1≠b0->M.pl b1=none:=λe=>by
  grind
 have g:sx.Le M M1:=by
  subst r;refine⟨λc m A=>?_,C⟩;grind
 have K:∀m,M1.pl b1=some m->m=BC:=λm h=>by simp_all
 have d:∀c m,c≠b1->M1.pl c=some m->M.pl c=some m:=λc m e h=>by subst r;simpa [e] using h
 have f:∀c a,c≠b1->(if c=b1 then some o1 else if c=b0 then none else H c)=some a->H c=some a/\c≠b0:=λc a e h=>by
  grind
 have O:∀c a m,H c=some a->c≠b0->M.pl c=some m->m.real->m.bN≠rA.bN:=λc a m h e s p L=>e (i.inj c b0 a o0 m rA h z s B p l L)
 have n:M1.sg=sg1:=by grind
 refine⟨⟨λc a h=>?_,λc G p1 p2 m1 m2 h1 J T e2 r1 r2 L=>?_,λb o v e=>?_,λc a m h hw e p j Y=>?_,λb c xs e m h N p=>?_,⟨by rw[cI];exact i.ml.1.1,D.gst _ _ (λc A=>hk c (λq=>by have:=i.ml.2 b0 o0 rA z t B l;omega)) i.ml.1.2⟩,λc a m h hw e p=>?_⟩,λc A=>?_,g.2,λb o h=>?_,Zd1 cI.symm,λc A Z=>hk c λe=>Z ⟨b0,o0,rA,z,t,B,l,e.symm⟩,λc a m h e p=>?_,λc h=>?_,V,W,X,?_⟩
 ·by_cases e:c=b1
  ·rw[Zac e] at h;cases h;exact⟨BC,by subst r;simp[e],ho⟩
  ·have⟨h1,J⟩:=f c a e h;have⟨m,s,P⟩:=i.obj c a h1;exact⟨m,g.1 _ _ s,P.mono g λp=>hk _ (O c a m h1 J s p)⟩
 ·by_cases e:c=b1<;>by_cases I:G=b1
  ·rw[e,I]
  ·grind
  ·grind
  ·have⟨y,Q⟩:=f c p1 e h1;have⟨q3,q4⟩:=f G p2 I J;exact i.inj c G p1 p2 m1 m2 y q3 (d _ _ e T) (d _ _ I e2) r1 r2 L
 ·rw[n] at e;by_cases U:b=rA.bN
  ·grind
  ·rcases k b o (by grind) with x | x
   ·have⟨u,hu⟩:=Zbs.1 x;have:=C _ _ _ hu;rw[e] at this;cases this;have⟨hp,F,A,hv⟩:=i.gE b o v hu;exact⟨hp,F,(kG (hk _ U)).trans A,hv.mono g⟩
   ·omega
 ·rw[n];by_cases e2:c=b1
  ·grind
  ·have⟨y,Q⟩:=f c a e2 h;cases hs:sg1 m.bN j with
   | none=>rfl
   | some v=>
    exfalso;rcases k m.bN j (by grind) with x | x
    ·exact x (i.sep c a m y hw (d _ _ e2 e) p j Y)
    ·grind
 ·by_cases e2:b=b1
  ·grind
  ·have⟨y,Q⟩:=f b _ e2 h;exact(i.J2 b c xs e m y (d _ _ e2 N) p).mono g.2
 ·by_cases e2:c=b1
  ·subst e2;have:=K _ e;subst this;rw[hblk];exact i.ml.2 b0 o0 rA z t B l
  ·have⟨y,Q⟩:=f c a e2 h;exact i.ml.2 c a m y hw (d _ _ e2 e) p
 ·subst r;grind
 ·rw[n] at h;rcases k b o h with x | x
  ·grind
  ·exact .inr (.inr ⟨b0,o0,rA,z,t,B,l,x.symm⟩)
 ·grind
 ·grind
 ·omega
theorem cL.drop (g:ey M H w) (lo:Nat):cL H M w (iY H b none) M w lo lo:=by
 have d:∀a f,iY H b none a=some f->H a=some f:=λa f h=>by
  grind [iY]
 exact⟨⟨λa f h=>g.obj a f (d a f h),λa i o1 f m1 m2 h1 j=>g.inj a i o1 f m1 m2 (d _ _ h1) (d _ _ j),g.gE,λa f m h=>g.sep a f m (d _ _ h),λa c xs e m h=>g.J2 a c xs e m (d _ _ h),g.ml.1,λa f m h=>g.ml.2 a f m (d _ _ h)⟩,λ_ _=>rfl,λ_ _ _ h=>h,λ_ _ h=>.inl h,Zah _,λ_ _ _=>rfl,
  λa f m h e l=>.inr ⟨a,f,m,d _ _ h,e,l,rfl,id⟩,λa h=>.inl (by have⟨o,k⟩:=Zbs.1 h;rw[d _ _ k];simp),rfl,rfl,rfl,Zah _⟩
def ey.sub {K:Hp D} (h:ey M H w) (f:∀b o,K b=some o->H b=some o):ey M K w:=
 ⟨λb o a=>h.obj b o (f b o a),λb j o k d i a g=>h.inj b j o k d i (f _ _ a) (f _ _ g),h.gE,λb o d a=>h.sep b o d (f _ _ a),λb c xs e d a=>h.J2 b c xs e d (f _ _ a),h.ml.1,λb o d a=>h.ml.2 b o d (f _ _ a)⟩
end
end
end sx
end Go.Proofs.YtadfknojfbmjgaaGreat
