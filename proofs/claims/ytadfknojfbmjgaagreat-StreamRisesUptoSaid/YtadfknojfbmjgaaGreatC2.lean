/- StreamRises: a part of the proof. -/
import Derived.Test.YtadfknojfbmjgaaGreatC1
import Derived.IntWalk
import Derived.Lib.ConvBytes
import Derived.Laws.StructEq
import Derived.Laws.Tables
set_option linter.all false
namespace Go.Proofs.YtadfknojfbmjgaaGreat
namespace sx
open Go Go.RowKit
variable {k:IntKind} {x:Int} {m:Nat}
theorem qL (x y:Int):WX x y=(x==y):=by
 cases x<;>cases y<;>rw[ZaG]<;>simp[WX,-Int.ofNat_eq_natCast]<;>try exact ZbW
theorem Gu (x y:Int):W5 x y=decide (x<y):=by
 rw[ZaG,ZbP];cases x with
 | ofNat a=>cases y with
  | ofNat b=>show Nat.ble (a+1) b↔_;rw[b9];simp;omega
  | negSucc b=>simp[W5];omega
 | negSucc a=>cases y with
  | ofNat b=>simp[W5];omega
  | negSucc b=>show Nat.ble (b+1) a↔_;rw[b9];omega
theorem fT {b:IntKind}:Bi k b↔k=b:=by
 cases k<;>cases b<;>decide
theorem gQ {v:CV}:OO k x=some v↔v=.num k x:=by
 cases x with
 | ofNat m=>cases m with
  | zero=>exact⟨λh=>by cases(show some (CV.num k (.ofNat 0))=some v from h);rfl,λh=>by rw[h];rfl⟩
  | succ m=>exact⟨λh=>by cases(show some (CV.num k (.ofNat (m+1)))=some v from h);rfl,λh=>by rw[h];rfl⟩
 | negSucc m=>cases m with
  | zero=>exact⟨λh=>by cases(show some (CV.num k (.negSucc 0))=some v from h);rfl,λh=>by rw[h];rfl⟩
  | succ m=>exact⟨λh=>by cases(show some (CV.num k (.negSucc (m+1)))=some v from h);rfl,λh=>by rw[h];rfl⟩
theorem rL {v:CV}:mkN m=some v↔v=.num .i64 (m:Int):=by
 cases m with
 | zero=>exact⟨λh=>by cases(show some (CV.num .i64 (.ofNat 0))=some v from h);rfl,λh=>by rw[h];rfl⟩
 | succ n=>exact⟨λh=>by cases(show some (CV.num .i64 (.ofNat (n+1)))=some v from h);rfl,λh=>by rw[h];rfl⟩
theorem J4 (k:IntKind) (n:Int) (h1: -(kLo k:Int)<=n) (a:n<=(kHi k:Int)):k.wrap n=n:=by
 cases k<;>simp only[kLo,kHi] at h1 a
 ·grind [IntWalk.i8_in]
 ·grind [IntWalk.i16_in]
 ·grind [IntWalk.i32_in]
 ·grind [IntWalk.i64_in]
 ·grind [IntWalk.u8_in]
 ·grind [IntWalk.u16_in]
 ·grind [IntWalk.u32_in]
 ·grind [IntWalk.u64_in]
theorem jC (k:IntKind) (n:Int):rI k n=k.wrap n:=by
 cases n with
 | ofNat m=>
  show Bool.rec (motive:=λ_=>Int) (k.wrap (.ofNat m)) (.ofNat m) (Nat.ble m (kHi k))=_
  cases h:Nat.ble m (kHi k)
  ·rfl
  ·grind [b9,J4]
 | negSucc m=>
  show Bool.rec (motive:=λ_=>Int) (k.wrap (.negSucc m)) (.negSucc m) (Nat.ble (m+1) (kLo k))=_
  cases h:Nat.ble (m+1) (kLo k)
  ·rfl
  ·grind [b9,J4]
def J5 (k:IntKind):uH k=2 ^ k.bits:=by cases k<;>rfl
theorem kH (k:IntKind) (n:Int):C4 k n=(BitVec.ofInt k.bits n).toNat:=by
 rw[BitVec.toNat_ofInt];cases n with
 | ofNat m=>
  show Nat.mod m (uH k)=_
  rw[J5];rfl
 | negSucc m=>
  show Nat.sub (Nat.sub (uH k) 1) (Nat.mod m (uH k))=_
  have a:0<2 ^ k.bits:=Nat.two_pow_pos _;have b:m % 2 ^ k.bits<2 ^ k.bits:=Zc4 _ a;rw[J5];show 2 ^ k.bits-1-m % 2 ^ k.bits=_
  have e:(Int.negSucc m) % ((2 ^ k.bits:Nat):Int)=((2 ^ k.bits-1-m % 2 ^ k.bits:Nat):Int):=by
   rw[Int.negSucc_emod _ ω];omega
  omega
theorem BD (a b:Nat):OP a b=min a b:=by
 show Bool.rec (motive:=λ_=>Nat) b a (Nat.ble a b)=_
 cases h:Nat.ble a b
 ·grind [De]
 ·simp_all
def OF (v:CV):Value:=match v with
 | .num k n=>.int k n
 | .lit b=>.bool b
theorem cB:mv k x↔CU k<=x/\x<=sY k:=by simp[mv,aC]
theorem cu (k:IntKind) (n:Int):mv k (k.wrap n):=by
 rw[cB];cases k<;>simp only[CU,sY,IntKind.wrap,IntKind.bits,IntKind.signed]<;>simp<;>(try split)<;>omega
theorem dF (h:mv k x):k.wrap x=x:=by
 rw[cB] at h;cases k<;>simp only[CU,sY] at h
 ·exact IntWalk.i8_in x h
 ·exact IntWalk.i16_in x h
 ·exact IntWalk.i32_in x h
 ·exact IntWalk.i64_in x h
 ·exact IntWalk.u8_in x h
 ·exact IntWalk.u16_in x h
 ·exact IntWalk.u32_in x h
 ·exact IntWalk.u64_in x h
theorem jv (h:m<=9223372036854775807):mv .i64 (m:Int):=by grind [cB,CU,sY]
def rM (b:UInt8):mv .u8 (b.toNat:Int):=by rw[cB];simp only[CU,sY];have:=b.toNat_lt;omega
theorem Dh {y:Int} (h:mv k x):mv k (Int.tmod x y):=by
 rw[cB] at*
 have h0:CU k<=0/\0<=sY k:=by cases k<;>simp[CU,sY]
 rcases Int.le_total 0 x with b | b
 ·have h1:=Int.tmod_nonneg y b;have d:Int.tmod x y<=x:=by
   rcases Int.natAbs_eq y with a | a
   ·rw[a,Zcc b];rcases ZbO y.natAbs with h0 | h0
    ·grind
    ·have:=ZcM x (show(0:Int)<y.natAbs by omega);by_cases c:x<y.natAbs
     ·grind [Int.emod_eq_of_lt]
     ·omega
   ·rw[a,Int.tmod_neg,Zcc b];rcases ZbO y.natAbs with h0 | h0
    ·grind
    ·have:=ZcM x (show(0:Int)<y.natAbs by omega);by_cases c:x<y.natAbs
     ·grind [Int.emod_eq_of_lt]
     ·omega
  omega
 ·obtain⟨z,rfl⟩:∃z,x= -z:=⟨-x,ω⟩;rw[Int.neg_tmod];have hz:0<=z:=ω;have h1:=Int.tmod_nonneg y hz;have d:Int.tmod z y<=z:=by
   rcases Int.natAbs_eq y with a | a
   ·rw[a,Zcc hz];rcases ZbO y.natAbs with h0 | h0
    ·grind
    ·have:=ZcM z (show(0:Int)<y.natAbs by omega);by_cases c:z<y.natAbs
     ·grind [Int.emod_eq_of_lt]
     ·omega
   ·rw[a,Int.tmod_neg,Zcc hz];rcases ZbO y.natAbs with h0 | h0
    ·grind
    ·have:=ZcM z (show(0:Int)<y.natAbs by omega);by_cases c:z<y.natAbs
     ·grind [Int.emod_eq_of_lt]
     ·omega
  omega
theorem J6 (h:mv k x) (h0:0<=x):mv k (x / 2 ^ m):=by
 rw[cB] at*
 have h1:0<=x / 2 ^ m:=Int.ediv_nonneg h0 (by grind);have a:x / 2 ^ m<=x:=Int.ediv_le_self _ h0;have b:CU k<=0:=by cases k<;>simp[CU]
 omega
section
variable {P:Program} {D:Data} {M:Pm D}
variable {Z:BinOp} {k d:IntKind} {v:CV} {x y:Int} {Y:AV D.E}
theorem Qg6 (h:∀k n,v=.num k n->mv k n):VR M (C6 v:AV D.E) (OF v):=by
 cases v with
 | num k n=>exact .num (h k n rfl)
 | lit b=>exact .lit b
theorem Pr (h:(W_ D Z k x y).H Y) (i:mv k x) (T:TypeId) (h1:Z≠.shl) (f:Z≠.shr):
  ∃d,(∀w,(binOp Z T (.int k x) (.int k y)).run P w=.ok d w)/\VR M Y d:=by
 cases Z<;>simp only[W_] at h<;>(try exact absurd rfl h1)<;>(try exact absurd rfl f)<;>(try exact h.elim)
 case add=>cases ai.1 h;exact⟨_,λw=>by simp[binOp,Op.intArith];rfl,.int (cu _ _)⟩
 case sub=>cases ai.1 h;exact⟨_,λw=>by simp[binOp,Op.intArith];rfl,.int (cu _ _)⟩
 case mul=>cases ai.1 h;exact⟨_,λw=>by simp[binOp,Op.intArith];rfl,.int (cu _ _)⟩
 case quo=>
  obtain⟨h0,h⟩:=cN.1 h;cases ai.1 h;have c:y≠0:=by grind [az]
  exact⟨_,λw=>by simp[binOp,Op.intDiv,c];rfl,.int (cu _ _)⟩
 case rem=>
  obtain⟨h0,h⟩:=cN.1 h;cases ai.1 h;have c:y≠0:=by grind [az]
  exact⟨_,λw=>by simp[binOp,Op.intDiv,c];rfl,.int (Dh i)⟩
 case and=>cases ai.1 h;exact⟨.int k (k.wrap ((BitVec.ofInt k.bits x&&& BitVec.ofInt k.bits y).toNat:Int)),λw=>by grind [binOp,Op.intBits,Sem.run_pure],by rw[BitVec.toNat_and,<-kH,<-kH];exact .int (cu _ _)⟩
 case or=>cases ai.1 h;exact⟨.int k (k.wrap ((BitVec.ofInt k.bits x||| BitVec.ofInt k.bits y).toNat:Int)),λw=>by grind [binOp,Op.intBits,Sem.run_pure],by rw[BitVec.toNat_or,<-kH,<-kH];exact .int (cu _ _)⟩
 case xor=>cases ai.1 h;exact⟨.int k (k.wrap ((BitVec.ofInt k.bits x ^^^ BitVec.ofInt k.bits y).toNat:Int)),λw=>by grind [binOp,Op.intBits,Sem.run_pure],by rw[Zdu,<-kH,<-kH];exact .int (cu _ _)⟩
 all_goals
  cases ai.1 h;refine⟨_,λw=>by simp only[binOp,Op.intCmp,ne_eq,Zce,Za0,Zzc];rfl,?_⟩;have g:∀a b:Bool,a=b->VR M (.bool a:AV D.E) (.bool b):=λa b e=>e▸.bool a
  apply g;rfl
theorem Di (h:(Xa D Z k d x y).H Y) (f:mv k x) (T:TypeId):
  ∃g,(∀w,(binOp Z T (.int k x) (.int d y)).run P w=.ok g w)/\VR M Y g:=by
 by_cases h1:Z=.shl
 ·subst h1;obtain⟨h0,a⟩:=cN.1 (show(ask (aC 0 y) _).H Y from h);cases ai.1 a;have:¬y<0:=by grind [aC]
  exact⟨_,λw=>by simp only[binOp,Op.shift,Zaa this,Zzc];rfl,.int (cu _ _)⟩
 ·by_cases a:Z=.shr
  ·subst a;obtain⟨h0,b⟩:=cN.1 (show(ask (aC 0 y) _).H Y from h);obtain⟨l,j⟩:=cN.1 (show(ask (aC 0 x) _).H Y from b);cases ai.1 j;have:¬y<0:=by grind [aC]
   have c:0<=x:=by grind [aC]
   refine⟨.int k (x.fdiv (2 ^ min y.toNat k.bits)),λw=>by grind [binOp,Op.shift,Sem.run_pure],?_⟩;rw[Zdi _ (by grind)];exact .int (J6 f c)
  ·have i:(bB (Bi k d) (W_ D Z k x y)).H Y:=by
    cases Z<;>first | exact h | exact absurd rfl h1 | exact absurd rfl a
   obtain⟨e,b⟩:=bm.1 i;obtain rfl:=fT.1 e;exact Pr b f T h1 a
theorem pI {n:Nat} (h:L8 k n=some v):v=.num k (k.wrap n):=by
 grind [L8,gQ,jC]
theorem Pt (h:W6 Z k x y=some v) (c:mv k x) (T:TypeId) (h1:Z≠.shl) (b:Z≠.shr):
  (∀w,(binOp Z T (.int k x) (.int k y)).run P w=.ok (OF v) w)/\∀a n,v=.num a n->mv a n:=by
 cases Z<;>simp only[W6] at h<;>(try cases h)<;>(try exact absurd rfl h1)<;>(try exact absurd rfl b)
 case add=>rw[gQ,jC] at h;subst h;exact⟨λw=>by simp[binOp,Op.intArith,OF],λ_ _ e=>by grind [cu]⟩
 case sub=>rw[gQ,jC] at h;subst h;exact⟨λw=>by simp[binOp,Op.intArith,OF];rfl,λ_ _ e=>by grind [cu]⟩
 case mul=>rw[gQ,jC] at h;subst h;exact⟨λw=>by simp[binOp,Op.intArith,OF],λ_ _ e=>by grind [cu]⟩
 case quo=>
  rw[BB] at h;rcases h with⟨_,h⟩ | ⟨h0,h⟩
  ·cases h
  ·rw[gQ,jC] at h;subst h;rw[qL] at h0;have:y≠0:=by grind
   exact⟨λw=>by simp[binOp,Op.intDiv,this,OF],λ_ _ e=>by grind [cu]⟩
 case rem=>
  rw[BB] at h;rcases h with⟨_,h⟩ | ⟨h0,h⟩
  ·cases h
  ·rw[gQ] at h;subst h;rw[qL] at h0;have:y≠0:=by grind
   exact⟨λw=>by simp[binOp,Op.intDiv,this,OF],λ_ _ e=>by grind [Dh]⟩
 case and=>have:=pI h;subst this;exact⟨λw=>by simp[binOp,Op.intBits,OF,kH,BitVec.toNat_and];try rfl,λ_ _ e=>by grind [cu]⟩
 case or=>have:=pI h;subst this;exact⟨λw=>by simp[binOp,Op.intBits,OF,kH,BitVec.toNat_or];try rfl,λ_ _ e=>by grind [cu]⟩
 case xor=>have:=pI h;subst this;exact⟨λw=>by simp[binOp,Op.intBits,OF,kH,Zdu];try rfl,λ_ _ e=>by grind [cu]⟩
 all_goals
  refine⟨λw=>?_,λ_ _ e=>by cases e⟩
  (simp[binOp,Op.intCmp,OF,qL,Gu];try rw[ZaG];try simp;try omega)
theorem Gv (h:Bj Z k d x y=some v) (f:mv k x) (T:TypeId):
  (∀w,(binOp Z T (.int k x) (.int d y)).run P w=.ok (OF v) w)/\∀k2 n,v=.num k2 n->mv k2 n:=by
 by_cases h1:Z=.shl
 ·subst h1;simp only[Bj] at h;cases y with
  | negSucc m=>cases h
  | ofNat m=>
   simp only[QgH] at h;rw[gQ,jC,BD] at h;subst h;refine⟨λw=>?_,λ_ _ e=>by grind [cu]⟩;rfl
 ·by_cases a:Z=.shr
  ·subst a;simp only[Bj] at h;cases y with
   | negSucc m=>cases h
   | ofNat m=>
    cases x with
    | negSucc x=>cases h
    | ofNat x=>
     simp only[QgI] at h;rw[gQ,BD] at h;subst h;have e:Int.fdiv (Int.ofNat x) (2 ^ min (Int.ofNat m).toNat k.bits)=Int.ofNat (Nat.div x (Nat.pow 2 (min m k.bits))):=by
      show Int.fdiv (Int.ofNat x) (2 ^ min m k.bits)=_
      rw[show(2:Int) ^ min m k.bits=((2 ^ min m k.bits:Nat):Int) by simp,Zdi _ (ZaF _)];rfl
     refine⟨λw=>?_,λk2 n e2=>?_⟩
     ·have:¬((m:Int)<0):=ω;simp only[binOp,Op.shift];rw[Zaa (by simp),e];rfl
     ·grind [J6]
  ·have c:oI (Bi k d) (W6 Z k x y)=some v:=by
    cases Z<;>first | exact h | exact absurd rfl h1 | exact absurd rfl a
   obtain⟨e,b⟩:=lI.1 c;obtain rfl:=fT.1 e;exact Pt b f T h1 a
theorem bytesLess_eq:∀(x y:List UInt8),Op.bytesLess x y=decide (x<y)
 | [],[]=>by rfl
 | [],_::_=>by rfl
 | _::_,[]=>by rfl
 | a::x,b::y=>by
  show(a<b||(a==b&&Op.bytesLess x y))=_
  rw[bytesLess_eq x y,ZaG];simp[List.cons_lt_cons_iff]
theorem Gx {x y:List UInt8} (h:(Bl D Z x y).H Y) (T:TypeId):∃d,(∀w,(binOp Z T (.string ⟨⟨x⟩⟩) (.string ⟨⟨y⟩⟩)).run P w=.ok d w)/\VR M Y d:=by
 have hl:∀z:List UInt8,(⟨⟨z⟩⟩:ByteArray).toList=z:=λz=>by
  simp_all
 have c:∀a b:List UInt8,Bool.not (decide (b<a))=(decide (a<b)||(a==b)):=λa b=>by
  grind
 cases Z<;>simp only[Bl] at h<;>(try exact h.elim)
 case add=>
  obtain⟨h0,h⟩:=cN.1 h;cases ai.1 h;have h1:x.length+y.length<=9223372036854775807:=by
   have:((we x y).length:Int)<=9223372036854775807:=ZaH h0;grind [we]
  refine⟨.string ⟨⟨x++y⟩⟩,λw=>?_,.str (by grind [we])⟩;have hs:¬((((⟨⟨x⟩⟩:ByteArray).size+(⟨⟨y⟩⟩:ByteArray).size:Nat):Int)>IntKind.i64.max):=by
   show ¬(((x.length+y.length:Nat):Int)>9223372036854775807)
   omega
  have g:(⟨⟨x⟩⟩:ByteArray)++⟨⟨y⟩⟩=⟨⟨x++y⟩⟩:=by
   rfl
  grind [binOp,Op.stringOp,Sem.run_pure]
 all_goals
  cases ai.1 h;refine⟨_,λw=>by simp only[binOp,Op.stringOp,Zzc,hl,bytesLess_eq];rfl,?_⟩;have f:∀a b:Bool,a=b->VR M (.bool a:AV D.E) (.bool b):=λa b e=>e▸.bool a
  apply f;simp only[seq,slt]<;>first | rfl | (rw[ZaG];simp;done) | exact c _ _ | (rw[<-c];simp)
end
structure FR {D:Data} (M:Pm D) (φ:T (AV D.E)) (a:Act) (N:Nat):Prop where
 at_:∀t v,φ.get t=some v->VR M v (a.tmps.getD t Go.undef)
 size:a.tmps.size=N
 defers:a.defers=[]
theorem not_iff {b:Bool}:Bool.not b↔b=false:=by grind
theorem iD {a b:Bool}:Bool.and a b↔a/\b:=by grind
section
variable {P:Program} {D:Data} {M M':Pm D} {φ:T (AV D.E)} {a:Act} {N:Nat} {w:World} {H:Hp D} {s s':St D.E}
variable {b o j:Nat} {e:TypeId} {d:List (AV D.E)} {v y:AV D.E} {z:Value} {Z:MI} {X:TypeDesc} {W:Array Value} {l:AO D.E}
variable {V:List (D.E b)}
def FR.mono (h:FR M φ a N) (b:Le M M'):FR M' φ a N:=⟨λt v e=>(h.at_ t v e).mono b,h.size,h.defers⟩
theorem J7 (h:OQ z=some v):VR M v z:=by
 unfold OQ at h;split at h
 ·cases h;exact .lit _
 ·rename_i k n
  obtain⟨h1,a⟩:=lI.1 h;cases a;rw[iD,not_iff,not_iff,Gu,Gu] at h1;exact .num (cB.2 ⟨by grind,by grind⟩)
 ·rename_i s
  obtain⟨h1,a⟩:=lI.1 h;cases a;have b:=b9.1 h1;rw[ju] at b;have:VR M (.str s.data.toList:AV D.E) (.string ⟨⟨s.data.toList⟩⟩):=.str b;exact this
 ·cases h;exact .nilFunc
 ·cases h;exact .nilIface
 ·split at h
  ·cases h;exact .fD
  ·cases h
 ·split at h
  ·cases h;exact .qm
  ·cases h
 ·split at h
  ·obtain⟨h1,a⟩:=lI.1 h;cases a;rw[iD,aF,aF] at h1;obtain⟨rfl,rfl⟩:=h1;exact .cF
  ·cases h
 ·split at h
  ·rename_i v y _ g
   obtain⟨h1,a⟩:=lI.1 h;cases a;rw[iD,aF,aF,ju,ju] at h1;exact .func _ h1.1.symm (λi z c e=>by simp at e) h1.2.symm (λi z c e=>by simp at e)
  ·cases h
 ·cases h
theorem BE:∀{l:List Value} {r:List (AV D.E)},W9 l=some r->LR M r l
 | [],r,h=>by cases(show some []=some r from h);exact .nil
 | v::l,r,h=>by
  obtain⟨x,d,h1⟩:=aB.1 (show oB (OQ v) (λa=>oB (W9 l) λr=>some (a::r))=some r from h);obtain⟨e,c,b⟩:=aB.1 h1;cases b;exact .cons (J7 d) (BE c)
theorem Pu (h:ofV z=some v):VR M v z:=by
 unfold ofV at h;split at h
 ·obtain⟨l,hl,h1⟩:=aB.1 h;cases h1;have:=BE (M:=M) hl;exact .agg this.1 this.2
 ·obtain⟨l,hl,h1⟩:=aB.1 h;cases h1;have:=BE (M:=M) hl;exact .tuple this.1 this.2
 ·exact J7 h
theorem dW {x:Operand} (h:(ev P D φ x).H v) (c:FR M φ a N):VR M v (a.eval x):=by
 cases x with
 | tmp t=>exact c.at_ t v (bu.1 h)
 | const u=>exact Pu (bu.1 h)
 | global g=>
  obtain⟨_,b⟩:=bm.1 (show(bB (Nat.ble (g+1) P.globals.size) (.ret (.kD g 0))).H v from h);cases ai.1 b;exact .kD g 0
 | func f=>
  cases ai.1 (show(C.ret (.func (.func f) [] [])).H v from h);exact .func _ rfl (λi v d e=>by simp at e) rfl (λi v d e=>by simp at e)
theorem Pv:∀{xs:List Operand} {b:List (AV D.E)},(OT P D φ xs).H b->FR M φ a N->LR M b (xs.map a.eval)
 | [],b,h,_=>by cases ai.1 (show(C.ret []).H b from h);exact .nil
 | x::xs,b,h,hf=>by
  obtain⟨v,e,h1⟩:=af.1 (show(av (ev P D φ x) λv=>av (OT P D φ xs) λb=>.ret (v::b)).H b from h);obtain⟨us,c,d⟩:=af.1 h1;cases ai.1 d;exact .cons (dW e hf) (Pv c hf)
theorem pJ (h:uI P e=some b):∃i,P.info? e=some i/\i.size=b:=by
 unfold uI at h;cases hi:P.info? e with
 | none=>rw[hi] at h;cases h
 | some i=>rw[hi] at h;cases h;exact⟨i,rfl,rfl⟩
theorem s7:(sz P e).H b↔uI P e=some b:=bu
def gR:(uJ P e).H X↔P.underlying e=some X:=bu
theorem zG (h:W' P e=some b):∃i,P.info? e=some i/\i.bytes=b:=by
 unfold W' at h;cases hi:P.info? e with
 | none=>rw[hi] at h;cases h
 | some i=>rw[hi] at h;cases h;exact⟨i,rfl,rfl⟩
theorem mB (h:(zeroOf P D e).H v):∃i a,P.info? e=some i/\i.zero=some a/\∀M:Pm D,VR M v a:=by
 obtain⟨i,hi,h1⟩:=af.1 h;grind [af,bu,Pu]
def cy (h:uI P e=some b) (w:World):(sizeOf e).run P w=.ok b w:=by
 obtain⟨i,hi,hk⟩:=pJ h;simp[sizeOf,typeInfo,hi,hk]
def rN {i:TypeInfo} (hi:P.info? e=some i) (hz:i.zero=some z) (w:World):(zeroValue e).run P w=.ok z w:=by
 simp[zeroValue,typeInfo,hi,hz]
def vv (h:P.underlying e=some X) (w:World):(isAgg e).run P w=.ok (Qdx X) w:=by
 cases X<;>simp[isAgg,Zza h,Qdx]
theorem Pw (b o n:Nat):Addr.add ⟨b,o,none⟩ n=⟨b,o+n,none⟩:=Addr.add_lit b o n
theorem kt (h:(j3 P D e d b).H v) (hl:LR M d W.toList):∃o,(∀w,(part e W b).run P w=.ok o w)/\VR M v o:=by
 obtain⟨cs,g,h1⟩:=af.1 h;rw[gR] at g;rcases im.1 h1 with⟨f,c⟩ | ⟨f,c⟩
 ·obtain⟨k,hk,a⟩:=af.1 c;obtain⟨l,i,m⟩:=af.1 a;cases ai.1 m;rw[s7] at hk;obtain⟨p,rfl⟩:=jc (bu.1 i);rw[mz] at*
  refine⟨.agg (W.extract b (b+k)),λw=>by simp[part,vv g,f,cy hk],?_⟩;have t:(W.extract b (b+k)).toList=(W.toList.drop b).take k:=by
   simp_all
  exact .agg (by rw[t];exact((hl.drop b).take k).1) (by rw[t];exact((hl.drop b).take k).2)
 ·have a:=bu.1 c;rw[fe] at a;obtain⟨o,j,n⟩:=hl.get a;rw[ZaL] at j;exact⟨o,λw=>by simp[part,vv g,f,j],n⟩
def pK (h:(pF s b).H d):∃e ro,s.h.get b=some (.cells d e ro):=by
 obtain⟨o,a,h1⟩:=af.1 h;cases o<;>first | (cases ai.1 h1;exact⟨_,_,bu.1 a⟩) | exact h1.elim
theorem BF (h:(Qdv s b).H (d,e)):s.h.get b=some (.cells d e false):=by
 obtain⟨o,cs,h1⟩:=af.1 h;cases o with
 | cells a c ro=>
  cases ro
  ·grind [ai,bu]
  ·exact h1.elim
 | arr=>exact h1.elim
 | tok=>exact h1.elim
theorem jw {x:Ar D.E} (h:(kE s b).H x):s.h.get b=some (.arr x.c x.xs x.e x.ro):=by
 obtain⟨o,a,h1⟩:=af.1 h;cases o with
 | arr c xs e ro=>cases ai.1 (show(C.ret (⟨c,xs,e,ro⟩:Ar D.E)).H x from h1);exact bu.1 a
 | cells=>exact h1.elim
 | tok=>exact h1.elim
theorem Xk (h:(Qbm s b).H (o,e)):s.h.get b=some (.tok o e):=by
 obtain⟨c,f,h1⟩:=af.1 h;cases c with
 | tok a d=>cases ai.1 (show(C.ret (a,d)).H (o,e) from h1);exact bu.1 f
 | cells=>exact h1.elim
 | arr=>exact h1.elim
def kI {o:Option (AO D.E)} (h:(s.set b o).H s'):s'.h.get=iY s.h.get b o/\s'.nx=s.nx:=by
 obtain⟨t,ht,h1⟩:=af.1 h;cases ai.1 h1;exact⟨funext λc=>T.dU _ _ _ _ (bu.1 ht) c,rfl⟩
theorem qF (h:(s.new l).H (b,s')):b=s.nx/\s'.nx=s.nx+1/\s'.h.get=iY s.h.get s.nx (some l):=by
 unfold St.new at h;cases a:s.nx with
 | zero=>
  rw[a] at h;obtain⟨t,ht,h1⟩:=af.1 (show(av (cE (s.h.put 0 (some l))) _).H (b,s') from h);cases ai.1 h1;exact⟨rfl,rfl,funext λc=>T.dU _ _ _ _ (bu.1 ht) c⟩
 | succ n=>
  rw[a] at h;obtain⟨t,ht,h1⟩:=af.1 (show(av (cE (s.h.put (n+1) (some l))) _).H (b,s') from h);cases ai.1 h1;exact⟨rfl,rfl,funext λc=>T.dU _ _ _ _ (bu.1 ht) c⟩
def Rd (M:Pm D) (w:World) (b o:Nat) (cs:List (AV D.E)):Prop:=∀(i:Nat) (v:AV D.E),cs[i]?=some v->∃a,w.cell? ⟨b,o+i,none⟩=some a/\VR M v a
theorem Rd.list {b o:Nat} {cs:List (AV D.E)} (h:Rd M w b o cs):∃l,LR M cs l/\∀j v,l[j]?=some v->w.cell? ⟨b,o+j,none⟩=some v:=by
 refine⟨(List.range cs.length).map λi=>(w.cell? ⟨b,o+i,none⟩).getD default,⟨by simp,λi v m e g=>?_⟩,λj v c=>?_⟩
 ·have hi:=(Zam.1 e).1;obtain⟨u,hu,f⟩:=h i v e;grind
 ·rw[Zbk] at c;cases d:(List.range cs.length)[j]? with
  | none=>rw[d] at c;cases c
  | some k=>
   rw[d] at c;have a:j<cs.length:=by grind
   rw[List.getElem?_range a] at d;cases d;obtain⟨u,hu,f⟩:=h j _ (Zaf a);grind
theorem Rd.drop (h:Rd M w b o d) (n:Nat):Rd M w b (o+n) (d.drop n):=λi v e=>by
 rw[ZbX] at e;obtain⟨c,h1,a⟩:=h _ v e;grind
def Rd.take (h:Rd M w b o d) (n:Nat):Rd M w b o (d.take n):=λi v e=>by
 rw[Za7] at e;split at e
 ·exact h i v e
 ·cases e
theorem Rd.heap {a:World} (h:Rd M w b o d) (hw:a.heap=w.heap):Rd M a b o d:=λi v e=>by
 obtain⟨cs,h1,c⟩:=h i v e;grind [World.cell?]
def Rd.mono (c:Le M M') (h:Rd M w b o d):Rd M' w b o d:=λi v e=>let ⟨cs,h1,a⟩:=h i v e;⟨cs,h1,a.mono c⟩
def Rd.runs (h:Rd M w b o d):∃l,LR M d l/\l.length=d.length/\∀k,k<=d.length->∀a:World,a.heap=w.heap->(loadCells ⟨b,o,none⟩ k).run P a=.ok (l.take k).toArray a:=by
 obtain⟨l,hl,cs⟩:=h.list;refine⟨l,hl,hl.1.symm,λk hk a hw=>?_⟩;have:=run_loadCells_list (P:=P) (w:=a) ⟨b,o,none⟩ (l.take k) (λj v c=>by
  rw[Addr.add_lit];rw[Za7] at c;split at c
  ·have:=cs j v c;simp only[World.cell?] at this ⊢;rw[hw];exact this
  ·cases c)
 rw[Zar,<-hl.1,Zbj hk] at this;exact this
theorem Rd.run (h:Rd M w b o d):∃l,LR M d l/\l.length=d.length/\∀a:World,a.heap=w.heap->(loadCells ⟨b,o,none⟩ d.length).run P a=.ok l.toArray a:=by
 obtain⟨l,h1,c,cs⟩:=h.runs (P:=P);grind
theorem wD (h:(j3 P D e d j).H v) (q:Rd M w b o d):
  ∃c,(Instr.loadAt e (.pointer (some ⟨b,o+j,none⟩))).run P w=.ok c w/\(loadVar e ⟨b,o+j,none⟩).run P w=.ok c w/\VR M v c:=by
 obtain⟨cs,m,s⟩:=af.1 h;rw[gR] at m;have r:∀x:Value,(loadVar e ⟨b,o+j,none⟩).run P w=.ok x w->(Instr.loadAt e (.pointer (some ⟨b,o+j,none⟩))).run P w=.ok x w:=λx r=>by
  assumption
 rcases im.1 s with⟨i,g⟩ | ⟨i,g⟩
 ·obtain⟨k,hk,f⟩:=af.1 g;obtain⟨l,hl,u⟩:=af.1 f;cases ai.1 u;rw[s7] at hk;obtain⟨B,rfl⟩:=jc (bu.1 hl);rw[mz] at*
  obtain⟨A,p,hlen,a⟩:=((q.drop j).take k).run (P:=P);have n:((d.drop j).take k).length=k:=by grind
  rw[n] at a;have t:(loadVar e ⟨b,o+j,none⟩).run P w=.ok (.agg A.toArray) w:=by
   simp[loadVar,vv m,i,cy hk,a w rfl]
  exact⟨_,r _ t,t,.Df p⟩
 ·have f:=bu.1 g;rw[fe] at f;obtain⟨c,y,z⟩:=q j v f;have t:(loadVar e ⟨b,o+j,none⟩).run P w=.ok c w:=by
   simp[loadVar,vv m,i,load,Sem.run,y]
  grind
theorem OE.rd {ro:Bool} (h:OE M Z w d e ro):Rd M w Z.bN Z.sh d:=λi v hi=>by
 obtain⟨C,b,h1,c,cs,f,_⟩:=h;grind [World.cell?]
theorem aS (a:aP D) (c:Nat):∀xs:List (D.E c),(aM c xs).length=xs.length*D.size c
 | []=>by simp[aM]
 | x::xs=>by
  have:=aS a c xs;simp only[aM,Zbt,Zab,Zae] at this ⊢;rw[this,a.len,ZaV];omega
theorem fK (a:aP D) (c:Nat):∀(xs:List (D.E c)) (i j:Nat) (hi:i<xs.length),j<D.size c->(aM c xs)[i*D.size c+j]?=(D.aX c xs[i])[j]?
 | [],i,j,hi,_=>by grind
 | x::xs,0,j,_,hj=>by
  simp only[aM,Zbt,ZbS,Za6,List.getElem_cons_zero];rw[Zat (by rw[a.len];exact hj)]
 | x::xs,i+1,j,hi,hj=>by
  have:=fK a c xs i j (by grind) hj;simp only[aM,Zbt] at this ⊢;rw[Zaz (by rw[a.len,ZaV];omega),a.len,show(i+1)*D.size c+j-D.size c=i*D.size c+j by grind,this];simp
theorem zH (a:aP D) (h:Rd M w o j (aM b V)) {i:Nat} (hi:i<V.length):Rd M w o (j+i*D.size b) (D.aX b V[i]):=λc v e=>by
 have f:c<D.size b:=by rw[<-a.len b V[i]];exact(Zam.1 e).1
 obtain⟨g,h1,d⟩:=h (i*D.size b+c) v (by grind [fK]);grind
theorem BG {α:Type} {d:α} {xs:List α} (h:b<xs.length):gt d xs b=xs[b]:=by
 unfold gt;grind
def QdJ (a:ey M H w) {x:D.E b} (h:∀(i:Nat) (v:AV D.E),(D.aX b x)[i]?=some v->M.sg o (j+i)=some v):Rd M w o j (D.aX b x):=λi v e=>(a.gE _ _ _ (h i v e)).2
theorem rO (f:aP D) (g:ey M H w) (h:ck M o j b V):Rd M w o j (aM b V):=λq v e=>by
 have c:=(Zam.1 e).1;rw[aS f] at c;have a:0<D.size b:=by
  grind
 have hi:q / D.size b<V.length:=Zc6 (by grind);have i:q % D.size b<D.size b:=Zc4 _ a;have d:q / D.size b*D.size b+q % D.size b=q:=by grind [Nat.div_add_mod]
 rw[<-d,fK f b V _ _ hi i] at e;have:=h _ hi _ v e;obtain⟨_,l,h1,k⟩:=g.gE _ _ _ this;grind
theorem zJ (I:aP D) (h:(C7 P D s e v).H y) (L:VR M v z) (m:ey M s.h.get w):
  ∃l p,z=.pointer (some p)/\(Instr.loadAt e z).run P w=.ok l w/\(loadVar e p).run P w=.ok l w/\VR M y l:=by
 cases L<;>simp only[C7] at h<;>(try exact h.elim)
 case ptr b o O n u=>
  obtain⟨cs,K,h1⟩:=af.1 h;obtain⟨t,ro,J⟩:=pK K;obtain⟨r,a,_,f⟩:=m.obj b _ J;rw[n] at a;cases a;obtain⟨l,C,F,G⟩:=wD h1 f.rd;grind
 case mj b k i j O n u hk hi=>
  obtain⟨x,N,h1⟩:=af.1 h;obtain⟨r,a,Q,R,f⟩:=m.obj b _ (jw N);rw[n] at a;cases a;have g:i<x.xs.length:=ω;have B:(j3 P D e (D.aX x.c x.xs[i]) j).H y:=by
   rw[<-BG (d:=D.W8 x.c) g];exact h1
  have A:=zH I (f u).rd g;grind [wD]
 case nr c x b o j q=>
  obtain⟨l,C,F,G⟩:=wD h (QdJ m q);grind
def vw (s:St D.E) (M:Pm D) (w:World) (r:Result Value) (v:AV D.E) (b:St D.E):Prop:=
 ∃a v' c,r=.ok v' c/\VR a v v'/\cL s.h.get M w b.h.get a c s.nx b.nx
theorem vw.pure (a:ey M s.h.get w) {r:Result Value} {v':Value} (b:r=.ok v' w) (c:VR M v v'):vw s M w r v s:=⟨M,v',w,b,c,.refl a _⟩
def Qg7 (s:St D.E) (M:Pm D) (w:World) (r:Result Unit) (a:St D.E):Prop:=
 ∃c b,r=.ok () b/\cL s.h.get M w a.h.get c b s.nx a.nx
theorem dn (b:Nat):∀(a:List Value) (o:Nat) (w:World) (c:Nat),c≠b->(w.setCells b o a).heap[c]?=w.heap[c]?
 | [],_,_,_,_=>rfl
 | v::r,o,w,c,h=>(dn b r (o+1) _ c h).trans (Below.heap_setCell w ⟨b,o,none⟩ v c h)
theorem dL (b:Nat):∀(a:List Value) (o:Nat) (w:World),(w.setCells b o a).heap.size=w.heap.size
 | [],_,_=>rfl
 | c::r,o,_w=>(dL b r (o+1) _).trans (World.size_setCell _ _ _)
theorem dM (b:Nat):∀(a:List Value) (o:Nat) (w:World),(w.setCells b o a).os=w.os/\(w.setCells b o a).tape=w.tape/\(w.setCells b o a).output=w.output
 | [],_,_=>⟨rfl,rfl,rfl⟩
 | c::r,o,_w=>dM b r (o+1) _
theorem fy (b:Nat) (e:TypeId) (c:Nat×Nat):∀(d:List Value) (o:Nat) (w:World) (C:Array Value),w.heap[b]?=some (.cells C e c)->o+d.length<=C.size->
  ∃a,(w.setCells b o d).heap[b]?=some (.cells a e c)/\a.size=C.size/\∀i,a[i]?=if o<=i/\i<o+d.length then d[i-o]? else C[i]?
 | [],o,w,C,h,_=>⟨C,h,rfl,λi=>by grind⟩
 | v::r,o,w,C,h,hl=>by
  have h1:(w.setCell ⟨b,o,none⟩ v).heap[b]?=some (.cells (C.setIfInBounds o v) e c):=by
   show(w.heap.modify b _)[b]?=_
   grind
  obtain⟨a,f,g,j⟩:=fy b e c r (o+1) _ _ h1 (by grind);refine⟨a,f,by grind,λi=>?_⟩;grind
theorem rP {o1:AO D.E} {g:Nat×Nat} {q:Nat} {vs':List Value} (r:ey M H w) (s:H b=some l) (hw:l.wr) (m:M.pl b=some Z) (n:Z.real)
  (t:w.heap[Z.bN]?=some (.cells W e g)) (cI:W.size=Z.qE) (K:q+vs'.length<=Z.qE) (x:g.1=g.2\/Z.qE<=g.1/\Z.je=1) (d:∀j,l.s6 Z j)
  (z:∀k:Array Value,(w.setCells Z.bN q vs').heap[Z.bN]?=some (.cells k e g)->k.size=W.size->(∀i,k[i]?=if q<=i/\i<q+vs'.length then vs'[i-q]? else W[i]?)->OR M o1 Z (w.setCells Z.bN q vs')) (lo:Nat) (p:∀c xs e,o1=.arr c xs e true->False:=by intro _ _ _ h;cases h):
  (∀j,j<vs'.length->(w.cell? ⟨Z.bN,q+j,none⟩).isSome)/\(∀j,j<vs'.length->w.frozen? ⟨Z.bN,q+j,none⟩=false)/\
  cL H M w (iY H b (some o1)) M (w.setCells Z.bN q vs') lo lo:=by
 refine⟨λj y=>?_,λj y=>?_,?_⟩
 ·grind [World.cell?]
 ·grind [World.frozen?]
 ·obtain⟨k,A,B,F⟩:=fy Z.bN e g vs' q w W t ω;obtain⟨G,I,J⟩:=dM Z.bN vs' q w;have f:∀j,M.sg Z.bN j=none:=λj=>r.sep b l Z s hw m n j (d j)
  have:=cL.upon (M1:=M) (sg1:=M.sg) (b0:=b) (b1:=b) (o1:=o1) (BC:=Z) (lo:=lo) (hi:=lo) r s hw m n n rfl (by
    cases M with
    | mk pl sg=>
     congr 1;funext c;by_cases e:c=b
     ·rw[Zac e,e];exact m
     ·rw[Zaa e]) (.inl ⟨rfl,rfl,rfl⟩) (λ_ _ _ h=>h) (λ_ _ h=>.inl h) (dL _ _ _ _) (λc u=>dn _ _ _ _ c u) G I J (z k A B F)
   (λo v h=>by grind) (λ_ j _=>f j) (λc xs e h=>(p c xs e h).elim)
  have e2:(λc=>if c=b then some o1 else if c=b then none else H c)=iY H b (some o1):=by
   grind [iY]
  grind
theorem wE {vs':List Value} (h:(sZ D s b o d).H s') (m:M.pl b=some Z) (j:ey M s.h.get w) (n:LR M d vs') (h1:jA one d):
  (storeCells ⟨Z.bN,Z.sh+o,none⟩ vs' 0).run P w=.ok () (w.setCells Z.bN (Z.sh+o) vs')/\cL s.h.get M w s'.h.get M (w.setCells Z.bN (Z.sh+o) vs') s.nx s'.nx:=by
 obtain⟨cs,e,hw,t⟩:=bh.1 h;obtain⟨f,x,u⟩:=af.1 t;obtain⟨F,G⟩:=kI u;have k:=BF hw;obtain⟨y,c,g,C,r,k1,k2,k3,k4,k5⟩:=j.obj b _ k;rw[m] at c;cases c;obtain⟨p1,p2,p3⟩:=jd (bu.1 x);have hl:=n.1;obtain⟨c1,c2,c3⟩:=rP (o1:=.cells f e false) (q:=Z.sh+o) (vs':=vs') j k rfl m g.1 k1 k2 ω (k5 rfl) (λ_=>trivial) (λp z A B=>⟨⟨g.1,g.2.1,ω⟩,p,r,z,A.trans k2,ω,λi v hi=>by
  rw[p3 i] at hi;rw[B];by_cases l:o<=i/\i<o+d.length
  ·rw[Zac l] at hi;rw[Zac ω,show Z.sh+i-(Z.sh+o)=i-o by omega];exact n.get hi
  ·rw[Zaa l] at hi;rw[Zaa ω];exact k4 i v hi,k5⟩) s.nx
 grind [run_storeCells_cells,s5]
theorem mC {α:Type} (xs:List α) (i:Nat) (x:α):(cA xs i x).length=xs.length:=by simp[cA]
theorem Gy (l:aP D) {vs':List Value} (h:(OU D s b o j d).H s') (Q:M.pl b=some Z) (R:Z.real) (hi:o<Z.len) (N:ey M s.h.get w) (S:LR M d vs') (h1:jA one d):
  (storeCells ⟨Z.bN,Z.sh+o*Z.je+j,none⟩ vs' 0).run P w=.ok () (w.setCells Z.bN (Z.sh+o*Z.je+j) vs')/\cL s.h.get M w s'.h.get M (w.setCells Z.bN (Z.sh+o*Z.je+j) vs') s.nx s'.nx:=by
 obtain⟨⟨c,xs,e,ro⟩,Y,L⟩:=af.1 h;have O:=jw Y;cases ro with
 | true=>exact L.elim
 | false=>
  obtain⟨row,f,W⟩:=af.1 (show(av (cE (C5 j d (D.aX c (gt (D.W8 c) xs o)))) _).H s' from L);obtain⟨x,m,X⟩:=af.1 W;obtain⟨q1,q2⟩:=kI X;obtain⟨a,i,g1,g2,A⟩:=N.obj b _ O;rw[Q] at i;cases i;obtain⟨C,V,k1,k2,k3,k4,k5⟩:=A R;simp only at g1 g2 k3 k4 k5 q1;have n:o<xs.length:=ω;rw[BG n] at f;obtain⟨p1,p2,p3⟩:=jd (bu.1 f);rw[l.len] at p1 p2;obtain⟨d1,d2⟩:=l.dec c row x (bu.1 m);have hl:=S.1;rw[aS l] at k3;have hmul:(o+1)*D.size c<=xs.length*D.size c:=Zbc _ n;rw[ZaV] at hmul;obtain⟨c1,c2,c3⟩:=rP (o1:=.arr c (cA xs o x) e false) (q:=Z.sh+o*Z.je+j) (vs':=vs') N O rfl Q R k1 k2 (by grind) (k5 trivial) (λ_=>trivial) (λT w1 w2 w3=>⟨by rw[mC];exact g1,g2,λ_=>⟨T,V,w1,w2.trans k2,by rw[aS l,mC];exact k3,λq v r=>by
   have y:=(Zam.1 r).1;rw[aS l,mC] at y;have z:0<D.size c:=by
    grind
   have F:q / D.size c<xs.length:=Zc6 (by grind);have G:q % D.size c<D.size c:=Zc4 _ z;have t:q / D.size c*D.size c+q % D.size c=q:=by grind [Nat.div_add_mod]
   rw[<-t,fK l c _ _ _ (by rw[mC];exact F) G] at r;have hold:∀u,(D.aX c xs[q / D.size c])[q % D.size c]?=some u->∃K,C[Z.sh+q]?=some K/\VR M u K:=λu hu=>by
    have:=k4 q u (by grind [fK]);exact this
   rw[w3,g2];by_cases g:q / D.size c=o
   ·have k:(cA xs o x)[q / D.size c]'(by grind)=x:=by simp[cA,g]
    rw[k] at r;have J:q % D.size c<row.length:=ω;have I:=Zaf J;rw[g] at t;by_cases B:j<=q % D.size c/\q % D.size c<j+d.length
    ·rw[Zac ω,show Z.sh+q-(Z.sh+o*D.size c+j)=q % D.size c-j by omega];have p:=p3 (q % D.size c);rw[Zac B,I] at p;obtain⟨K,e1,e2⟩:=S.get p.symm;grind
    ·grind
   ·have k:(cA xs o x)[q / D.size c]'(by grind)=xs[q / D.size c]:=by
     grind [cA]
    rw[k] at r;rw[Zaa (by
     rintro⟨a1,a2⟩;apply g;have b1:o*D.size c<=q:=ω;have U:q<(o+1)*D.size c:=by grind
     have b3:=(Nat.le_div_iff_mul_le z).2 b1;have b4:=(Nat.div_lt_iff_lt_mul z).2 U;omega)]
    exact hold _ r,λ_=>k5 trivial⟩⟩) s.nx
  grind [run_storeCells_cells,s5]
theorem Dj (x:aP D) {l:Value} (h:(JK P D s e v y).H s') (q:VR M v z) (A:VR M y l) (m:ey M s.h.get w):Qg7 s M w ((Instr.storeAt e z l).run P w) s':=by
 obtain⟨k,hk,r⟩:=af.1 h;rw[s7] at hk;obtain⟨hl,u⟩:=bm.1 r;obtain⟨n,c⟩:=bm.1 u;have a:=fi A;have hlen:l.cells.size=k:=by
  have:=a.1;grind [aF,ju]
 cases q<;>simp only at c<;>(try exact c.elim)
 case ptr b o B g p=>
  obtain⟨d,t⟩:=wE (P:=P) c g m a n;refine⟨M,_,?_,t⟩;simp only[Instr.storeAt,Instr.sureAddr,Zzd,Zzc,Zzb,storeVar,cy hk,hlen,ne_eq,Zce,Za0];exact d
 case mj b k2 i j B g p f hi=>
  obtain⟨d,t⟩:=Gy (P:=P) x c g p hi m a n;rw[f] at d t;refine⟨M,_,?_,t⟩;simp only[Instr.storeAt,Instr.sureAddr,Zzd,Zzc,Zzb,storeVar,cy hk,hlen,ne_eq,Zce,Za0];exact d
end
end sx
end Go.Proofs.YtadfknojfbmjgaaGreat
