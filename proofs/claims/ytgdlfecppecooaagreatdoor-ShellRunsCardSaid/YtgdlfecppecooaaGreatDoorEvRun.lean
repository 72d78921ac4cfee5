/- An evaluator of closed calls: code, regions whose order is drawn, calls. The text, made for the kernel. -/
import Derived.Test.YtgdlfecppecooaaGreatDoorEvDef
set_option linter.all false
namespace Go.Proofs.YtgdlfecppecooaaGreatDoor.ev
open Go
noncomputable section
section
variable (P : Program)
inductive Ex where
  | normal
  | exit (id : Nat)
  | ret
inductive Out where
  | mk (e : Ex) (s : St) (φ : T Value)
abbrev ExF := Code → St → T Value → Nat → Option Out
abbrev CaF := FuncId → List Value → St → Option (Value × St)
def ca0 : CaF := fun _ _ _ => none
def outOk (e : Ex) : Bool := match e with
  | .exit _ => false
  | _ => true
/-- what a call comes to, of what its body came to -/
def callOut (rs : List ResultVar) (r : Out) : Option (Value × St) := match r with
  | .mk e s φ => bB (outOk e) (bnd (resA P s φ rs) fun vs => some (resV vs, s))
/-- a call of a function that has a body -/
def callW (ex : ExF) (f : FuncId) (args : List Value) (s : St) : Option (Value × St) := bnd (P.funcs[f]?) fun fn => bnd fn.body fun c => bnd (frame0 args (nat_lit 0) .nil) fun φ =>
  bnd (ex c s φ (Nat.add (lLen args) (Nat.sub fn.ntmps (lLen args)))) fun r => callOut P fn.results.toList r
end
def asFn (v : Value) : Option (FuncId × List Value × List Value) := match v with
  | .func fn first captured => match fn with
    | .func f => some (f, first.toList, captured.toList)
    | _ => none
  | _ => none
/-- a call of a function: which, with what -/
def callA (P : Program) (φ : T Value) (x : Operand) (c : Call) : Option (FuncId × List Value) := bnd (ev P φ x) fun v => bnd2 (asFn v) fun f p => bnd (evs P φ c.args.toList) fun args => bnd (sApp args p.2) fun r => bnd (sApp p.1 r) fun r => some (f, r)
def opMakeMap (s : St) (r : Option Operand) : Option (Value × St) := match r with
  | none => bnd2 (s.new (.map [] (nat_lit 0))) fun b s => some (.map (some b), s)
  | some _ => none
def dChan (d : TypeDesc) : Option TypeId := match d with
  | .chan _ e => some e
  | _ => none
def opMakeChan (P : Program) (s : St) (t : TypeId) (x : Value) : Option (Value × St) := bnd (asNat x) fun n => bnd (P.underlying t) fun d => bnd (dChan d) fun e => bnd (byOf P e) fun by_ =>
  bB (Nat.ble n (nat_lit 1000)) (bB (Nat.ble by_ (nat_lit 65536)) (bnd2 (s.new (.chan n)) fun b s => some (.chan (some b), s)))
def idxB (c : Nat) (l : List UInt8) : Nat → Int := List.rec (motive := fun _ => Nat → Int) (fun _ => .negSucc (nat_lit 0)) (fun b _ ih i => Bool.rec (motive := fun _ => Int) (ih (Nat.succ i)) (.ofNat i) (Nat.beq b.toNat c)) l
def asU8 (v : Value) : Option Nat := match v with
  | .int k n => match k with
    | .u8 => match n with
      | .ofNat m => bB (Nat.ble m (nat_lit 255)) (some m)
      | .negSucc _ => none
    | _ => none
  | _ => none
/-- a call of one that has no body -/
def xA (f : FuncId) (vs : List Value) : Option Value := bE (Nat.beq f NE) (bB (Nat.beq (lLen vs) (nat_lit 1)) (lGet vs (nat_lit 0)))
  (bE (Nat.beq f IBS) (bB (Nat.beq (lLen vs) (nat_lit 2)) (bnd (lGet vs (nat_lit 0)) fun x => bnd (asStr x) fun l => bnd (lGet vs (nat_lit 1)) fun c => bnd (asU8 c) fun n => mkI .i64 (idxB n l (nat_lit 0)))) none)
def callX (ex : CaF) (f : FuncId) (args : List Value) (s : St) : Option (Value × St) := Option.rec (motive := fun _ => Option (Value × St)) (ex f args s) (fun v => some (v, s)) (xA f args)
/-- a call: of a function, of a builtin -/
def callF (c : Callee) : Program → CaF → St → T Value → Call → Option (Value × St) := match c with
  | .value x => fun P ex s φ c => bnd2 (callA P φ x c) fun f args => callX ex f args s
  | .builtin b => fun P _ s φ c => bnd (evs P φ c.args.toList) fun vs => opBuiltin b P s c.argTypes.toList vs
  | _ => fun _ _ _ _ _ => none
/-- an operation: the alternatives are closed terms -/
def opF (op : Op) : Program → CaF → St → T Value → Option (Value × St) := match op with
  | .move x => fun P _ s φ => pureS s (ev P φ x)
  | .assign x => fun P _ s φ => pureS s (ev P φ x)
  | .pick c a b => fun P _ s φ => bnd (ev P φ c) fun c => bnd (ev P φ a) fun a => bnd (ev P φ b) fun b => opPick s c a b
  | .alloc e => fun P _ s _φ => bnd (zeroOf P e) fun z => opNew s e (cellsV z)
  | .box e x => fun P _ s φ => bnd (ev P φ x) fun v => opNew s e (cellsV v)
  | .build t parts => fun P _ s φ => pureS s (opBuild P φ t parts.toList)
  | .buildSlice t len parts => fun P _ s φ => opBuildSl P s φ t len parts.toList
  | .load t a => fun P _ s φ => bnd (ev P φ a) fun v => bnd2 (asPtr v) fun b o => pureS s (loadA P s t b o)
  | .store t a x => fun P _ s φ => bnd (ev P φ a) fun a => bnd (ev P φ x) fun x => undS (opStore P s t a x)
  | .nilCheck x => fun P _ s φ => bnd (ev P φ x) fun v => pureS s (opNil v)
  | .binOp op t x y _ => fun P _ s φ => bnd (ev P φ x) fun vx => bnd (ev P φ y) fun vy => pureS s (binO P s op t x y vx vy)
  | .unOp op _ x => fun P _ s φ => bnd (ev P φ x) fun x => pureS s (unA op x)
  | .convert a b x => fun P _ s φ => bnd (ev P φ x) fun x => opConv P s a b x
  | .makeInterface t x => fun P _ s φ => bnd (ev P φ x) fun x => pureS s (opIface P t x)
  | .makeFunc fn first captured => fun P _ s φ => bnd (evs P φ first.toList) fun f => bnd (evs P φ captured.toList) fun c => some (.func fn ⟨f⟩ ⟨c⟩, s)
  | .makeMap _ r => fun _ _ s _ => opMakeMap s r
  | .makeChan t x => fun P _ s φ => bnd (ev P φ x) fun x => opMakeChan P s t x
  | .makeSlice t l c => fun P _ s φ => bnd (ev P φ l) fun l => bnd (ev P φ c) fun c => opMakeSl P s t l c
  | .slice t x lo hi mx => fun P _ s φ => bnd (ev P φ x) fun x => bnd (evO P φ lo) fun lo => bnd (evO P φ hi) fun hi => bnd (evO P φ mx) fun mx => pureS s (sliceA P t x lo hi mx)
  | .fieldAddr t x f => fun P _ s φ => bnd (ev P φ x) fun x => pureS s (opFieldAddr P t x f)
  | .field t x f => fun P _ s φ => bnd (ev P φ x) fun x => pureS s (opField P t x f)
  | .indexAddr t x i => fun P _ s φ => bnd (ev P φ x) fun x => bnd (ev P φ i) fun i => pureS s (opIdxAddr P t x i)
  | .index t x i => fun P _ s φ => bnd (ev P φ x) fun x => bnd (ev P φ i) fun i => pureS s (opIndex P t x i)
  | .lookup t x i ok => fun P _ s φ => bnd (ev P φ x) fun x => bnd (ev P φ i) fun i => pureS s (lookA P s t x i ok)
  | .mapUpdate t m k x => fun P _ s φ => bnd (ev P φ m) fun m => bnd (ev P φ k) fun k => bnd (ev P φ x) fun x => undS (mapSet P s t m k x)
  | .insert t m k x => fun P _ s φ => bnd (ev P φ m) fun m => bnd (ev P φ k) fun k => bnd (ev P φ x) fun x => undS (mapSet P s t m k x)
  | .extract t i => fun P _ s φ => bnd (ev P φ t) fun x => pureS s (opExtract x i)
  | .call c => fun P ex s φ => callF c.callee P ex s φ c
  | _ => fun _ _ _ _ => none
section
variable (P : Program)
def runOps (ex : CaF) (ops : List Oper) (N : Nat) (l : List Oper) : St → T Value → Option (St × T Value) :=
  List.rec (motive := fun _ => St → T Value → Option (St × T Value)) (fun s φ => some (s, φ))
    (fun o _ ih s φ => bE (wantA ops φ o)
      (bnd2 (opF o.op P ex s φ) fun v s1 => bnd (putA N φ o.dst v) fun φ => bB (Nat.ble s.nx s1.nx) (ih s1 φ))
      (bnd (putA N φ o.dst undef) fun φ => ih s φ)) l
/-! ### Regions whose order is drawn -/
/-- 1: reads nothing; 2: reads alone; 3: all else -/
def clsB (b : Builtin) (ts : List TypeId) : Nat := match b with
  | .len => match ts with
    | t :: _ => Option.rec (motive := fun _ => Nat) (nat_lit 3) (fun d => Option.rec (motive := fun _ => Nat) (nat_lit 1) (fun _ => nat_lit 2) (dMap d)) (P.underlying t)
    | [] => nat_lit 3
  | .min => nat_lit 1
  | .max => nat_lit 1
  | _ => nat_lit 3
def clsOf (o : Oper) : Nat := match o.op with
  | .move _ => nat_lit 1
  | .assign _ => nat_lit 1
  | .pick _ _ _ => nat_lit 1
  | .alloc _ => nat_lit 1
  | .box _ _ => nat_lit 1
  | .build _ _ => nat_lit 1
  | .buildSlice _ _ _ => nat_lit 1
  | .nilCheck _ => nat_lit 1
  | .binOp _ _ _ _ _ => nat_lit 1
  | .unOp _ _ _ => nat_lit 1
  | .makeInterface _ _ => nat_lit 1
  | .makeFunc _ _ _ => nat_lit 1
  | .makeMap _ _ => nat_lit 1
  | .makeSlice _ _ _ => nat_lit 1
  | .slice _ _ _ _ _ => nat_lit 1
  | .fieldAddr _ _ _ => nat_lit 1
  | .field _ _ _ => nat_lit 1
  | .indexAddr _ _ _ => nat_lit 1
  | .index _ _ _ => nat_lit 1
  | .extract _ _ => nat_lit 1
  | .load _ _ => nat_lit 2
  | .lookup _ _ _ _ => nat_lit 2
  | .convert src _ _ => Option.rec (motive := fun _ => Nat) (nat_lit 3) (fun d => Option.rec (motive := fun _ => Nat) (nat_lit 1) (fun _ => nat_lit 2) (dElem d)) (P.underlying src)
  | .call c => match c.callee with
    | .builtin b => clsB P b c.argTypes.toList
    | _ => nat_lit 3
  | _ => nat_lit 3
/-- which operations stand before one, through others too -/
def maskOf (ms : List Nat) (es : List Edge) : Nat → Option Nat :=
  List.rec (motive := fun _ => Nat → Option Nat) (fun m => some m)
    (fun e _ ih m => bE (Region.binds .any e) (bnd (lGet ms e.on) fun k => ih (Nat.lor (Nat.lor m (Nat.pow (nat_lit 2) e.on)) k)) (ih m)) es
def masks (os : List Oper) : List Nat → Option (List Nat) :=
  List.rec (motive := fun _ => List Nat → Option (List Nat)) (fun ms => some ms)
    (fun o _ ih ms => bnd (maskOf ms o.after.toList (nat_lit 0)) fun m => bnd (sApp ms [m]) fun ms => ih ms) os
def inM (ms : List Nat) (i j : Nat) : Bool := Option.rec (motive := fun _ => Bool) false (fun m => Nat.beq (Nat.mod (Nat.div m (Nat.pow (nat_lit 2) i)) (nat_lit 2)) (nat_lit 1)) (lGet ms j)
def readsT (d : Nat) (x : Operand) : Bool := match x with
  | .tmp t => Nat.beq t d
  | _ => false
def anyL {α : Type} (f : α → Bool) (l : List α) : Bool := List.rec (motive := fun _ => Bool) false (fun a _ ih => Bool.rec (motive := fun _ => Bool) ih true (f a)) l
/-- does an operation read a temporary (its guard's too)? -/
def guardT (ops : List Oper) (o : Oper) : Option Tmp := bnd o.guard fun p => bnd (lGet ops p.1) fun x => x.dst
def reads (ops : List Oper) (o : Oper) (d : Nat) : Bool := Bool.or (anyL (readsT d) o.op.operands.toList) (Option.rec (motive := fun _ => Bool) false (fun t => Nat.beq t d) (guardT ops o))
/-- j writes nothing that i reads, or they stand in an order; they write different temporaries; two effects stand in an order -/
def ordered (ms : List Nat) (i j : Nat) : Bool := Bool.or (inM ms i j) (inM ms j i)
def pairOk (ops : List Oper) (ms : List Nat) (i j : Nat) (oi oj : Oper) : Bool :=
  Bool.or (Nat.beq i j) (Bool.and (Option.rec (motive := fun _ => Bool) true (fun d => Bool.and (Bool.or (ordered ms i j) (Bool.not (reads ops oi d))) (Option.rec (motive := fun _ => Bool) true (fun e => Bool.not (Nat.beq d e)) oi.dst)) oj.dst)
    (Bool.or (Bool.not (Bool.and (Nat.beq (clsOf P oi) (nat_lit 3)) (Nat.beq (clsOf P oj) (nat_lit 3)))) (ordered ms i j)))
def allIx {α : Type} (f : Nat → α → Bool) (l : List α) : Nat → Bool :=
  List.rec (motive := fun _ => Nat → Bool) (fun _ => true) (fun a _ ih i => Bool.rec (motive := fun _ => Bool) false (ih (Nat.succ i)) (f i a)) l
def noSel (o : Oper) : Bool := match o.op with
  | .select _ _ => false
  | _ => true
/-- the guard's operation stands before -/
def guardOk (ms : List Nat) (i : Nat) (o : Oper) : Bool := Option.rec (motive := fun _ => Bool) true (fun p => inM ms p.1 i) o.guard
def staticOk (ops : List Oper) : Option (List Nat) := bnd (masks ops []) fun ms =>
  bB (allIx (fun i oi => Bool.and (Bool.and (noSel oi) (guardOk ms i oi)) (allIx (fun j oj => pairOk P ops ms i j oi oj) ops (nat_lit 0))) ops (nat_lit 0)) (some ms)
/-- values that are surely the same -/
def vEqB (x y : Value) : Bool := match x with
  | .bool a => Option.rec (motive := fun _ => Bool) false (fun b => Bool.rec (motive := fun _ => Bool) (Bool.not b) b a) (asBool y)
  | .int k a => Option.rec (motive := fun _ => Bool) false (fun p => Prod.rec (motive := fun _ => Bool) (fun k' b => Bool.and (kEq k k') (iEq a b)) p) (asInt y)
  | .string a => Option.rec (motive := fun _ => Bool) false (fun b => bEq a.data.toList b) (asStr y)
  | .pointer a => match y with
    | .pointer b => match a with
      | none => Option.isNone b
      | some _ => Option.rec (motive := fun _ => Bool) false (fun p => Option.rec (motive := fun _ => Bool) false (fun q => Bool.and (Nat.beq p.1 q.1) (Nat.beq p.2 q.2)) (asPtr y)) (asPtr x)
    | _ => false
  | .slice a l c => match y with
    | .slice b l' c' => Bool.and (Bool.and (Nat.beq l l') (Nat.beq c c')) (match a with
      | none => Option.isNone b
      | some a => match b with
        | none => false
        | some b => Bool.and (Bool.and (Nat.beq a.block b.block) (Nat.beq a.off b.off)) (Bool.and (Option.isNone a.spot) (Option.isNone b.spot)))
    | _ => false
  | .map a => match y with
    | .map b => match a with
      | none => Option.isNone b
      | some a => Option.rec (motive := fun _ => Bool) false (fun b => Nat.beq a b) b
    | _ => false
  | .chan a => match y with
    | .chan b => match a with
      | none => Option.isNone b
      | some a => Option.rec (motive := fun _ => Bool) false (fun b => Nat.beq a b) b
    | _ => false
  | .nilFunc => match y with
    | .nilFunc => true
    | _ => false
  | .nilIface => match y with
    | .nilIface => true
    | _ => false
  | _ => false
def vEq0 (x y : Value) : Bool := match x with
  | .iface t a => match y with
    | .iface u b => Bool.and (Nat.beq t u) (vEqB a b)
    | _ => false
  | x => vEqB x y
def vEqL (xs : List Value) : List Value → Bool :=
  List.rec (motive := fun _ => List Value → Bool) (fun ys => List.rec (motive := fun _ => Bool) true (fun _ _ _ => false) ys)
    (fun x _ ih ys => List.rec (motive := fun _ => Bool) false (fun y ys _ => Bool.rec (motive := fun _ => Bool) false (ih ys) (vEq0 x y)) ys) xs
def vEq (x y : Value) : Bool := match x with
  | .agg xs => match y with
    | .agg ys => vEqL xs.toList ys.toList
    | _ => false
  | .tuple xs => match y with
    | .tuple ys => vEqL xs.toList ys.toList
    | _ => false
  | x => vEq0 x y
structure Rc where
  o : Oper
  cls : Nat
  v : Value
  φ : T Value
  lo : Nat
  hi : Nat
  pc : T AO
/-- has it made a piece of memory? -/
def piece (r : Rc) : Bool := Bool.and (Nat.beq r.cls (nat_lit 1)) (Nat.ble (Nat.succ r.lo) r.hi)
/-- the selected pieces, put into a heap -/
def addPcs (sel : Nat → Bool) (rs : List Rc) : Nat → T AO → Option (T AO) :=
  List.rec (motive := fun _ => Nat → T AO → Option (T AO)) (fun _ h => some h)
    (fun r _ ih j h => bE (Bool.and (piece r) (sel j)) (bnd (r.pc.get r.lo) fun o => bnd (h.put r.lo (some o)) fun h => ih (Nat.succ j) h) (ih (Nat.succ j) h)) rs
/-- a load among the selected pieces -/
def loadAtP (φ : T Value) (o : Oper) (sel : Nat → Bool) (rs : List Rc) : Nat → Option Value :=
  List.rec (motive := fun _ => Nat → Option Value) (fun _ => none)
    (fun r _ ih j => bE (Bool.and (piece r) (sel j)) (bnd (r.pc.get r.lo) fun ob => bnd (T.nil.put r.lo (some ob)) fun h => Option.rec (motive := fun _ => Option Value) (ih (Nat.succ j)) (fun p => some p.1) (opF o.op P ca0 ⟨h, nat_lit 0⟩ φ)) (ih (Nat.succ j))) rs
def loadAtH (φ : T Value) (o : Oper) (sel : Nat → Bool) (rs : List Rc) (h : T AO) : Option Value :=
  Option.rec (motive := fun _ => Option Value) (loadAtP P φ o sel rs (nat_lit 0)) (fun p => some p.1) (opF o.op P ca0 ⟨h, nat_lit 0⟩ φ)
/-- what an operation reads -/
def tmpOf (x : Operand) : Option Tmp := match x with
  | .tmp t => some t
  | _ => none
def restr (φ : T Value) (ts : List (Option Tmp)) : T Value → Option (T Value) :=
  List.rec (motive := fun _ => T Value → Option (T Value)) (fun ψ => some ψ)
    (fun x _ ih ψ => Option.rec (motive := fun _ => Option (T Value)) (ih ψ) (fun t => Option.rec (motive := fun _ => Option (T Value)) (ih ψ) (fun v => bnd (ψ.put t (some v)) fun ψ => ih ψ) (φ.get t)) x) ts
def mapL {α β : Type} (f : α → β) (l : List α) : List β := List.rec (motive := fun _ => List β) [] (fun a _ ih => f a :: ih) l
def readsOf (ops : List Oper) (o : Oper) : List (Option Tmp) := guardT ops o :: mapL tmpOf o.op.operands.toList
/-- frame, the heap, the heaps (the first one first), next number, the last effect's place (one more; 0: none yet), the effects' places, what was done (in text order) -/
structure Ds where
  φ : T Value
  h : T AO
  hs : List (T AO)
  nx : Nat
  last : Nat
  es : List Nat
  rs : List Rc
def notBefore (ms : List Nat) (last j : Nat) : Bool := Nat.rec (motive := fun _ => Bool) true (fun e _ => Bool.not (inM ms j e)) last
def drawFree (N : Nat) (o : Oper) (ψ : T Value) (d : Ds) : Option Ds := bnd2 (opF o.op P ca0 ⟨.nil, d.nx⟩ ψ) fun v s => bnd (putA N d.φ o.dst v) fun φ => bB (Bool.and (Nat.ble d.nx s.nx) (Nat.ble s.nx (Nat.succ d.nx)))
  (bnd (sApp d.rs [⟨o, nat_lit 1, v, ψ, d.nx, s.nx, s.h⟩]) fun rs => some ⟨φ, d.h, d.hs, s.nx, d.last, d.es, rs⟩)
def drawLoad (N : Nat) (ms : List Nat) (i : Nat) (o : Oper) (ψ : T Value) (d : Ds) : Option Ds := bnd (loadAtH P ψ o (fun j => Bool.and (inM ms j i) (notBefore ms d.last j)) d.rs d.h) fun v => bnd (putA N d.φ o.dst v) fun φ =>
  bnd (sApp d.rs [⟨o, nat_lit 2, v, ψ, d.nx, d.nx, .nil⟩]) fun rs => some ⟨φ, d.h, d.hs, d.nx, d.last, d.es, rs⟩
def drawEff (ex : CaF) (N : Nat) (ms : List Nat) (i : Nat) (o : Oper) (ψ : T Value) (d : Ds) : Option Ds := bB (Nat.beq (clsOf P o) (nat_lit 3)) (bnd (addPcs (fun j => Bool.and (inM ms j i) (notBefore ms d.last j)) d.rs (nat_lit 0) d.h) fun k =>
  bnd2 (opF o.op P ex ⟨k, d.nx⟩ ψ) fun v s => bnd (putA N d.φ o.dst v) fun φ => bB (Nat.ble d.nx s.nx) (bnd (sApp d.rs [⟨o, nat_lit 3, v, ψ, d.nx, s.nx, .nil⟩]) fun rs => bnd (sApp d.hs [s.h]) fun hs => bnd (sApp d.es [i]) fun es => some ⟨φ, s.h, hs, s.nx, Nat.succ i, es, rs⟩))
def drawSkip (N : Nat) (o : Oper) (ψ : T Value) (d : Ds) : Option Ds := bnd (putA N d.φ o.dst undef) fun φ => bnd (sApp d.rs [⟨o, nat_lit 0, undef, ψ, d.nx, d.nx, .nil⟩]) fun rs => some ⟨φ, d.h, d.hs, d.nx, d.last, d.es, rs⟩
def drawOne (ex : CaF) (ops : List Oper) (N : Nat) (ms : List Nat) (i : Nat) (o : Oper) (d : Ds) : Option Ds := bnd (restr d.φ (readsOf ops o) .nil) fun ψ => bE (wantA ops ψ o)
  (bE (Nat.beq (clsOf P o) (nat_lit 1)) (drawFree P N o ψ d) (bE (Nat.beq (clsOf P o) (nat_lit 2)) (drawLoad P N ms i o ψ d) (drawEff P ex N ms i o ψ d)))
  (drawSkip N o ψ d)
def drawAll (ex : CaF) (ops : List Oper) (N : Nat) (ms : List Nat) (l : List Oper) : Nat → Ds → Option Ds :=
  List.rec (motive := fun _ => Nat → Ds → Option Ds) (fun _ d => some d) (fun o _ ih i d => bnd (drawOne P ex ops N ms i o d) fun d => ih (Nat.succ i) d) l
def hereOk (ms : List Nat) (rs : List Rc) (i last : Nat) (r : Rc) (h : T AO) : Bool := Option.rec (motive := fun _ => Bool) false (fun v => vEq v r.v) (loadAtH P r.φ r.o (fun j => Bool.and (inM ms j i) (notBefore ms last j)) rs h)
/-- may operation i stand behind what was last, ahead of the next effect? -/
def mayStand (ms : List Nat) (i last : Nat) (es : List Nat) : Bool := Bool.and (notBefore ms last i) (List.rec (motive := fun _ => Bool) true (fun e _ _ => Bool.not (inM ms e i)) es)
/-- a load is the same in each heap in which it may be made: hs = [H_0 .. H_m], es = [e_1 .. e_m] -/
def loadChk (ms : List Nat) (rs : List Rc) (i : Nat) (r : Rc) (hs : List (T AO)) : Nat → List Nat → Bool :=
  List.rec (motive := fun _ => Nat → List Nat → Bool) (fun _ _ => true)
    (fun h _ ih last es => Bool.and (Bool.or (Bool.not (mayStand ms i last es)) (hereOk P ms rs i last r h)) (List.rec (motive := fun _ => Bool) true (fun e es _ => ih (Nat.succ e) es) es)) hs
def drawW (ex : CaF) (ops : List Oper) (N : Nat) (s : St) (φ : T Value) : Option (St × T Value) := bnd (staticOk P ops) fun ms => bnd (drawAll P ex ops N ms ops (nat_lit 0) ⟨φ, s.h, [s.h], s.nx, nat_lit 0, [], []⟩) fun d =>
  bB (allIx (fun i r => Bool.or (Bool.not (Nat.beq r.cls (nat_lit 2))) (loadChk P ms d.rs i r d.hs (nat_lit 0) d.es)) d.rs (nat_lit 0))
    (bnd (addPcs (notBefore ms d.last) d.rs (nat_lit 0) d.h) fun h => some (⟨h, d.nx⟩, d.φ))
def outN (x : Option (St × T Value)) : Option Out := bnd2 x fun s φ => some (.mk .normal s φ)
def thenO (r : Out) (f : St → T Value → Option Out) : Option Out := match r with
  | .mk e s φ => match e with
    | .normal => f s φ
    | .exit id => some (.mk (.exit id) s φ)
    | .ret => some (.mk .ret s φ)
def blockO (id : Nat) (r : Out) : Option Out := match r with
  | .mk e s φ => match e with
    | .normal => some (.mk .normal s φ)
    | .exit id' => bE (Nat.beq id' id) (some (.mk .normal s φ)) (some (.mk (.exit id') s φ))
    | .ret => some (.mk .ret s φ)
end
def step (c : Code) : Program → ExF → CaF → St → T Value → Nat → Option Out := match c with
  | .skip => fun _ _ _ s φ _ => some (.mk .normal s φ)
  | .label _ => fun _ _ _ s φ _ => some (.mk .normal s φ)
  | .region _ ops draw => fun P _ ca s φ N => bE draw (outN (drawW P ca ops.toList N s φ)) (outN (runOps P ca ops.toList N ops.toList s φ))
  | .seq a b => fun _ ex _ s φ N => bnd (ex a s φ N) fun r => thenO r fun s φ => ex b s φ N
  | .cond c a b => fun P ex _ s φ N => bnd (ev P φ c) fun v => bnd (asBool v) fun t => bE t (ex a s φ N) (ex b s φ N)
  | .block id b => fun _ ex _ s φ N => bnd (ex b s φ N) fun r => blockO id r
  | .loop b => fun _ ex _ s φ N => bnd (ex b s φ N) fun r => thenO r fun s φ => ex (.loop b) s φ N
  | .exit id => fun _ _ _ s φ _ => some (.mk (.exit id) s φ)
  | .ret => fun _ _ _ s φ _ => some (.mk .ret s φ)
  | _ => fun _ _ _ _ _ _ => none
/-- A call that was evaluated ahead: which, with what, from which memory; what came of it. -/
structure En where
  f : FuncId
  args : List Value
  s : St
  v : Value
  s' : St
/-- values that are surely the same -/
def vEqN (x y : Value) : Bool := match x with
  | .iface t a => match y with
    | .iface u b => Bool.and (Nat.beq t u) (vEq a b)
    | _ => false
  | x => vEq x y
def vEqNL (xs : List Value) : List Value → Bool :=
  List.rec (motive := fun _ => List Value → Bool) (fun ys => List.rec (motive := fun _ => Bool) true (fun _ _ _ => false) ys)
    (fun x _ ih ys => List.rec (motive := fun _ => Bool) false (fun y ys _ => Bool.rec (motive := fun _ => Bool) false (ih ys) (vEqN x y)) ys) xs
def meEqL (xs : List MapEntry) : List MapEntry → Bool :=
  List.rec (motive := fun _ => List MapEntry → Bool) (fun ys => List.rec (motive := fun _ => Bool) true (fun _ _ _ => false) ys)
    (fun x _ ih ys => List.rec (motive := fun _ => Bool) false (fun y ys _ => Bool.rec (motive := fun _ => Bool) false (ih ys) (Bool.and (Nat.beq x.born y.born) (Bool.and (vEqN x.key y.key) (vEqN x.val y.val)))) ys) xs
def aoEq (x y : AO) : Bool := match x with
  | .cells a t r => match y with
    | .cells b u q => Bool.and (Bool.and (Nat.beq t u) (Bool.rec (motive := fun _ => Bool) (Bool.not q) q r)) (vEqNL a b)
    | _ => false
  | .chan a => match y with
    | .chan b => Nat.beq a b
    | _ => false
  | .map a c => match y with
    | .map b d => Bool.and (Nat.beq c d) (meEqL a b)
    | _ => false
/-- is a memory a part of another? -/
def subT (x : T AO) : T AO → Bool :=
  T.rec (motive := fun _ => T AO → Bool) (fun _ => true)
    (fun v _ _ sl sr y => T.rec (motive := fun _ => Bool) false
      (fun v' l' r' _ _ => Bool.rec (motive := fun _ => Bool) false (Bool.rec (motive := fun _ => Bool) false (sr r') (sl l')) (Option.rec (motive := fun _ => Bool) true (fun a => Option.rec (motive := fun _ => Bool) false (fun b => aoEq a b) v') v)) y) x
def enFits (en : En) (f : FuncId) (args : List Value) (s : St) : Bool :=
  Bool.rec (motive := fun _ => Bool) false (Bool.rec (motive := fun _ => Bool) false (subT en.s.h s.h) (vEqNL en.args args)) (Bool.and (Nat.beq en.f f) (Nat.beq en.s.nx s.nx))
/-- did a call come to what is written? -/
def enChk (r : Option (Value × St)) (v : Value) (s' : St) : Bool := Option.rec (motive := fun _ => Bool) false (fun p => Prod.rec (motive := fun _ => Bool) (fun u t => Bool.and (Bool.and (vEqN v u) (Nat.beq t.nx s'.nx)) (subT s'.h t.h)) p) r
def callT (tab : List En) (ca : CaF) : CaF := fun f args s => List.rec (motive := fun _ => Option (Value × St)) (ca f args s) (fun en _ ih => Bool.rec (motive := fun _ => Option (Value × St)) ih (some (en.v, en.s')) (enFits en f args s)) tab
def exec (P : Program) (tab : List En) (n : Nat) : ExF := Nat.rec (motive := fun _ => ExF) (fun _ _ _ _ => none) (fun _ ih c s φ N => step c P ih (callT tab (callW P ih)) s φ N) n
end
end Go.Proofs.YtgdlfecppecooaaGreatDoor.ev
