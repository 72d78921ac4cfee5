/- Steps of the program: the contracts hold. -/
import Derived.Test.YtjdehneddakpnaaGreatDoorCSxE
import Derived.Lib.LaidTab
import Derived.Lib.ItoaNum
import Derived.Test.YtjdehneddakpnaaGreatDoorProg
import Derived.KernelRfl
import Derived.Lib.AtoiAll
import Derived.Lib.ItoaMem
import Derived.Shelf.Small.Strs
import Derived.Shelf.LaysM
import Derived.Shelf.Strconv.Itoa3
import Derived.Shelf.LaysC
import Derived.Shelf.Strconv.AtoiAll
import Derived.Lib.Bytealg
import Derived.Lib.AtoiErrMem
import Derived.Lib.ItoaLen
set_option linter.all false
namespace Go.Proofs.YtjdehneddakpnaaGreatDoor.sx
open Go Go.RowKit
abbrev Wd := List UInt8 × Bool
abbrev Pat := List UInt8 × List UInt8
abbrev Told := Int × Int
abbrev Un := Unit
noncomputable section
structure Rec where
  ino : Int
  gen : Int
  pos : Int
  rule : List UInt8
  kind : Int
  c0 : Int
  c1 : Int
  c2 : Int
  c3 : Int
  c4 : Int
  c5 : Int
  c6 : Int
  c7 : Int
  c8 : Int
  c9 : Int
def El (c : Nat) : Type := match c with
  | 0 => UInt8
  | 1 => Wd
  | 2 => Pat
  | 3 => Int
  | 4 => Told
  | 5 => Rec
  | 6 => Un
  | _ => Unit
def szD (c : Nat) : Nat := match c with
  | 0 => 1
  | 1 => 2
  | 2 => 2
  | 3 => 1
  | 4 => 2
  | 5 => 15
  | 6 => 0
  | _ => 1
def encD (c : Nat) : El c → List (AV El) := match c with
  | 0 => fun (x : UInt8) => [.int .u8 x.toNat]
  | 1 => fun (x : Wd) => [.str x.1, .bool x.2]
  | 2 => fun (x : Pat) => [.str x.1, .str x.2]
  | 3 => fun (x : Int) => [.int .i64 x]
  | 4 => fun (x : Told) => [.int .i64 x.1, .int .i64 x.2]
  | 5 => fun (x : Rec) => [.int .i64 x.ino, .int .i64 x.gen, .int .i64 x.pos, .str x.rule, .int .i64 x.kind, .int .i64 x.c0, .int .i64 x.c1, .int .i64 x.c2, .int .i64 x.c3, .int .i64 x.c4, .int .i64 x.c5, .int .i64 x.c6, .int .i64 x.c7, .int .i64 x.c8, .int .i64 x.c9]
  | 6 => fun (x : Un) => []
  | _ => fun _ => [.int .i64 0]
def decI (k : IntKind) (v : AV El) : Option Int := match v with
  | .int k' n => oI (kEq k k') (some n)
  | .num k' n => oI (kEq k k') (some n)
  | _ => none
def decB (v : AV El) : Option Bool := match v with
  | .bool b => some b
  | .lit b => some b
  | _ => none
def decS (v : AV El) : Option (List UInt8) := match v with
  | .str s => some s
  | _ => none
def b8 (n : Int) : UInt8 := UInt8.ofNat n.toNat
def dec0 (l : List (AV El)) : Option (El 0) := match l with
  | [a0] => oB (decI .u8 a0) fun a0 => some (b8 a0)
  | _ => none
def dec1 (l : List (AV El)) : Option (El 1) := match l with
  | [a0, a1] => oB (decS a0) fun a0 => oB (decB a1) fun a1 => some (Prod.mk a0 a1)
  | _ => none
def dec2 (l : List (AV El)) : Option (El 2) := match l with
  | [a0, a1] => oB (decS a0) fun a0 => oB (decS a1) fun a1 => some (Prod.mk a0 a1)
  | _ => none
def dec3 (l : List (AV El)) : Option (El 3) := match l with
  | [a0] => oB (decI .i64 a0) fun a0 => some a0
  | _ => none
def dec4 (l : List (AV El)) : Option (El 4) := match l with
  | [a0, a1] => oB (decI .i64 a0) fun a0 => oB (decI .i64 a1) fun a1 => some (Prod.mk a0 a1)
  | _ => none
def dec5 (l : List (AV El)) : Option (El 5) := match l with
  | [a0, a1, a2, a3, a4, a5, a6, a7, a8, a9, a10, a11, a12, a13, a14] => oB (decI .i64 a0) fun a0 => oB (decI .i64 a1) fun a1 => oB (decI .i64 a2) fun a2 => oB (decS a3) fun a3 => oB (decI .i64 a4) fun a4 => oB (decI .i64 a5) fun a5 => oB (decI .i64 a6) fun a6 => oB (decI .i64 a7) fun a7 => oB (decI .i64 a8) fun a8 => oB (decI .i64 a9) fun a9 => oB (decI .i64 a10) fun a10 => oB (decI .i64 a11) fun a11 => oB (decI .i64 a12) fun a12 => oB (decI .i64 a13) fun a13 => oB (decI .i64 a14) fun a14 => some (Rec.mk a0 a1 a2 a3 a4 a5 a6 a7 a8 a9 a10 a11 a12 a13 a14)
  | _ => none
def dec6 (l : List (AV El)) : Option (El 6) := match l with
  | [] => some (Unit.unit )
  | _ => none
def decD (c : Nat) (l : List (AV El)) : Option (El c) := match c with
  | 0 => dec0 l
  | 1 => dec1 l
  | 2 => dec2 l
  | 3 => dec3 l
  | 4 => dec4 l
  | 5 => dec5 l
  | 6 => dec6 l
  | _ => none
def dflD (c : Nat) : El c := match c with
  | 0 => (0 : UInt8)
  | 1 => Prod.mk [] false
  | 2 => Prod.mk [] []
  | 3 => (0 : Int)
  | 4 => Prod.mk 0 0
  | 5 => Rec.mk 0 0 0 [] 0 0 0 0 0 0 0 0 0 0 0
  | 6 => Unit.unit 
  | (_ + 7) => ()
/-- what is known of the variables: the table of powers, two errors -/
def errAt (w : World) (g : Nat) : Prop := ∃ (a : Addr) (fz : Nat × Nat), w.heap[g]? = some (.cells #[.iface 346 (.pointer (some a))] 104 fz) ∧ a.spot = none
def gwD (w : World) : Prop := Lib.TabIs Tryz.prog w "internal/strconv.uint64pow10" .u64 Lib.pow10Tab ∧ errAt w 2 ∧ errAt w 3
def ngD : Nat := 1 + 2 + 3 + 1
theorem gTab : Tryz.prog.globalNamed "internal/strconv.uint64pow10" = some 1 := by kernel_rfl
theorem errAt.cell {w : World} {g : Nat} (h : errAt w g) : ∃ te pe, w.cell? ⟨g, 0, none⟩ = some (.iface te pe) := by
  obtain ⟨a, fz, h, _⟩ := h
  refine ⟨346, .pointer (some a), ?_⟩
  simp [World.cell?, h]
theorem errAt.mono {w w' : World} {g : Nat} (hg : w'.heap[g]? = w.heap[g]?) (h : errAt w g) : errAt w' g := by
  obtain ⟨a, fz, h, hs⟩ := h
  exact ⟨a, fz, hg.trans h, hs⟩
theorem gstD (w w' : World) (h : ∀ c, c < ngD → w'.heap[c]? = w.heap[c]?) (hw : gwD w) : gwD w' := by
  obtain ⟨h1, h2, h3⟩ := hw
  refine ⟨?_, h2.mono (h _ (by unfold ngD; omega)), h3.mono (h _ (by unfold ngD; omega))⟩
  unfold Lib.TabIs World.var? at *
  rw [gTab] at *
  rw [Option.bind_some] at *
  rw [h _ (by unfold ngD; omega)]
  exact h1
def D : Data := ⟨El, szD, encD, decD, dflD, 0, fun xs => xs, fun xs => xs, ngD, gwD, gstD⟩
end
section
variable {M : Pm D} {v : AV D.E} {val : Value}
theorem decI_VR {k : IntKind} {n : Int} (h : decI k v = some n) (hv : VR M v val) : VR M (.int k n : AV D.E) val ∧ inR k n = true := by
  cases hv <;> simp only [decI] at h <;> (try (cases h; done))
  case int k' n' hr =>
    obtain ⟨h1, h2⟩ := oI_some.1 h
    cases h2
    rw [kEq_iff.1 h1]
    exact ⟨.int hr, hr⟩
  case num k' n' hr =>
    obtain ⟨h1, h2⟩ := oI_some.1 h
    cases h2
    rw [kEq_iff.1 h1]
    exact ⟨.int hr, hr⟩
theorem decB_VR {b : Bool} (h : decB v = some b) (hv : VR M v val) : VR M (.bool b : AV D.E) val := by
  cases hv <;> simp only [decB] at h <;> (try (cases h; done))
  · cases h; exact .bool _
  · cases h; exact .bool _
theorem decS_VR {s : List UInt8} (h : decS v = some s) (hv : VR M v val) : VR M (.str s : AV D.E) val := by
  cases hv <;> simp only [decS] at h <;> (try (cases h; done))
  cases h
  exact .str (by assumption)
theorem b8_toNat {n : Int} (h : inR .u8 n = true) : ((b8 n).toNat : Int) = n := by
  rw [inR_iff] at h
  simp only [kMn, kMx] at h
  unfold b8
  rw [UInt8.toNat_ofNat']
  omega
/-- a row of cells, one by one -/
def RowR (row enc : List (AV D.E)) : Prop := row.length = enc.length ∧ ∀ (j : Nat) (a a' : AV D.E), row[j]? = some a → enc[j]? = some a' → ∀ (M : Pm D) (v : Value), VR M a v → VR (D := D) M a' v
theorem RowR.nil : RowR [] [] := ⟨rfl, fun j a a' h => by simp at h⟩
theorem RowR.cons {a a' : AV D.E} {r e : List (AV D.E)} (h : ∀ (M : Pm D) (v : Value), VR M a v → VR (D := D) M a' v) (hr : RowR r e) : RowR (a :: r) (a' :: e) :=
  ⟨by simp [hr.1], fun j x x' e1 e2 => by
    cases j with
    | zero => simp at e1 e2; subst e1; subst e2; exact h
    | succ j => exact hr.2 j x x' (by simpa using e1) (by simpa using e2)⟩
end
theorem dec0_ok {row : List (AV El)} {x : El 0} (h : dec0 row = some x) : RowR row (encD 0 x) := by
  unfold dec0 at h
  split at h
  · rename_i a0
    obtain ⟨x0, e0, h⟩ := oB_some.1 h
    cases h
    exact .cons (fun M v hv => by
      obtain ⟨h1, h2⟩ := decI_VR e0 hv
      show VR M (.int .u8 ((b8 x0).toNat : Int)) v
      rw [b8_toNat h2]
      exact h1) .nil
  · cases h
theorem dec1_ok {row : List (AV El)} {x : El 1} (h : dec1 row = some x) : RowR row (encD 1 x) := by
  unfold dec1 at h
  split at h
  · rename_i a0 a1
    obtain ⟨x0, e0, h⟩ := oB_some.1 h
    obtain ⟨x1, e1, h⟩ := oB_some.1 h
    cases h
    exact .cons (fun _ _ hv => decS_VR e0 hv) (.cons (fun _ _ hv => decB_VR e1 hv) .nil)
  · cases h
theorem dec2_ok {row : List (AV El)} {x : El 2} (h : dec2 row = some x) : RowR row (encD 2 x) := by
  unfold dec2 at h
  split at h
  · rename_i a0 a1
    obtain ⟨x0, e0, h⟩ := oB_some.1 h
    obtain ⟨x1, e1, h⟩ := oB_some.1 h
    cases h
    exact .cons (fun _ _ hv => decS_VR e0 hv) (.cons (fun _ _ hv => decS_VR e1 hv) .nil)
  · cases h
theorem dec3_ok {row : List (AV El)} {x : El 3} (h : dec3 row = some x) : RowR row (encD 3 x) := by
  unfold dec3 at h
  split at h
  · rename_i a0
    obtain ⟨x0, e0, h⟩ := oB_some.1 h
    cases h
    exact .cons (fun _ _ hv => (decI_VR e0 hv).1) .nil
  · cases h
theorem dec4_ok {row : List (AV El)} {x : El 4} (h : dec4 row = some x) : RowR row (encD 4 x) := by
  unfold dec4 at h
  split at h
  · rename_i a0 a1
    obtain ⟨x0, e0, h⟩ := oB_some.1 h
    obtain ⟨x1, e1, h⟩ := oB_some.1 h
    cases h
    exact .cons (fun _ _ hv => (decI_VR e0 hv).1) (.cons (fun _ _ hv => (decI_VR e1 hv).1) .nil)
  · cases h
theorem dec5_ok {row : List (AV El)} {x : El 5} (h : dec5 row = some x) : RowR row (encD 5 x) := by
  unfold dec5 at h
  split at h
  · rename_i a0 a1 a2 a3 a4 a5 a6 a7 a8 a9 a10 a11 a12 a13 a14
    obtain ⟨x0, e0, h⟩ := oB_some.1 h
    obtain ⟨x1, e1, h⟩ := oB_some.1 h
    obtain ⟨x2, e2, h⟩ := oB_some.1 h
    obtain ⟨x3, e3, h⟩ := oB_some.1 h
    obtain ⟨x4, e4, h⟩ := oB_some.1 h
    obtain ⟨x5, e5, h⟩ := oB_some.1 h
    obtain ⟨x6, e6, h⟩ := oB_some.1 h
    obtain ⟨x7, e7, h⟩ := oB_some.1 h
    obtain ⟨x8, e8, h⟩ := oB_some.1 h
    obtain ⟨x9, e9, h⟩ := oB_some.1 h
    obtain ⟨x10, e10, h⟩ := oB_some.1 h
    obtain ⟨x11, e11, h⟩ := oB_some.1 h
    obtain ⟨x12, e12, h⟩ := oB_some.1 h
    obtain ⟨x13, e13, h⟩ := oB_some.1 h
    obtain ⟨x14, e14, h⟩ := oB_some.1 h
    cases h
    exact .cons (fun _ _ hv => (decI_VR e0 hv).1) (.cons (fun _ _ hv => (decI_VR e1 hv).1) (.cons (fun _ _ hv => (decI_VR e2 hv).1) (.cons (fun _ _ hv => decS_VR e3 hv) (.cons (fun _ _ hv => (decI_VR e4 hv).1) (.cons (fun _ _ hv => (decI_VR e5 hv).1) (.cons (fun _ _ hv => (decI_VR e6 hv).1) (.cons (fun _ _ hv => (decI_VR e7 hv).1) (.cons (fun _ _ hv => (decI_VR e8 hv).1) (.cons (fun _ _ hv => (decI_VR e9 hv).1) (.cons (fun _ _ hv => (decI_VR e10 hv).1) (.cons (fun _ _ hv => (decI_VR e11 hv).1) (.cons (fun _ _ hv => (decI_VR e12 hv).1) (.cons (fun _ _ hv => (decI_VR e13 hv).1) (.cons (fun _ _ hv => (decI_VR e14 hv).1) .nil))))))))))))))
  · cases h
theorem dec6_ok {row : List (AV El)} {x : El 6} (h : dec6 row = some x) : RowR row (encD 6 x) := by
  unfold dec6 at h
  split at h
  · skip
    cases h
    exact .nil
  · cases h
theorem allP {l : List (AV D.E)} (h : allL (fun v => one v && pure0 (D := D) v) l = true) : ∀ v ∈ l, one v = true ∧ pure0 v = true := fun v hv => by
  have := allL_iff.1 h v hv
  simpa using this
theorem D_ok : DataOk D where
  len := fun c x => by
    show (encD c x).length = szD c
    match c, x with
    | 0, x => rfl
    | 1, x => rfl
    | 2, x => rfl
    | 3, x => rfl
    | 4, x => rfl
    | 5, x => rfl
    | 6, x => rfl
    | _ + 7, x => rfl
  one := fun c x => by
    show ∀ v ∈ encD c x, one v = true ∧ pure0 (D := D) v = true
    match c, x with
    | 0, x => intro v hv; exact allP (l := encD 0 x) (by rfl) v hv
    | 1, x => intro v hv; exact allP (l := encD 1 x) (by rfl) v hv
    | 2, x => intro v hv; exact allP (l := encD 2 x) (by rfl) v hv
    | 3, x => intro v hv; exact allP (l := encD 3 x) (by rfl) v hv
    | 4, x => intro v hv; exact allP (l := encD 4 x) (by rfl) v hv
    | 5, x => intro v hv; exact allP (l := encD 5 x) (by rfl) v hv
    | 6, x => intro v hv; exact allP (l := encD 6 x) (by rfl) v hv
    | _ + 7, x => intro v hv; exact allP (l := [.int .i64 0]) (by rfl) v hv
  dec := fun c row x h => by
    have key : RowR row (encD c x) := by
      match c, x, h with
      | 0, x, h => exact dec0_ok h
      | 1, x, h => exact dec1_ok h
      | 2, x, h => exact dec2_ok h
      | 3, x, h => exact dec3_ok h
      | 4, x, h => exact dec4_ok h
      | 5, x, h => exact dec5_ok h
      | 6, x, h => exact dec6_ok h
      | _ + 7, x, h => cases (show none = some x from h)
    have hl : (encD c x).length = szD c := by
      match c, x with
      | 0, x => rfl
      | 1, x => rfl
      | 2, x => rfl
      | 3, x => rfl
      | 4, x => rfl
      | 5, x => rfl
      | 6, x => rfl
      | _ + 7, x => rfl
    exact ⟨key.1.trans hl, key.2⟩
  b1 := rfl
  bl := fun _ => rfl
  be := fun _ _ _ => rfl
  bo := fun _ => rfl
end Go.Proofs.YtjdehneddakpnaaGreatDoor.sx
namespace Go.Proofs.YtjdehneddakpnaaGreatDoor.sx
open Go Go.RowKit
noncomputable section
/-- codes of the types of elements -/
def cdD (t : TypeId) : Option Nat := match t with
  | 5 => some 0
  | 86 => some 1
  | 65 => some 1
  | 69 => some 2
  | 3 => some 3
  | 48 => some 4
  | 49 => some 4
  | 80 => some 5
  | _ => none
def noNG (l : List Func) : Bool := allL (fun fn => Bool.not (fn.name == "runtime.NumGoroutine" && fn.body.isSome)) l
theorem noNG_spec {P : Program} (h : noNG P.funcs.toList = true) : NoNG P := fun f fn hf => by
  have := allL_iff.1 h fn (List.mem_of_getElem? (i := f) (by rw [Array.getElem?_toList]; exact hf))
  exact Bool.not_eq_true' _ |>.mp this
theorem noCount : NoNG Tryz.prog := noNG_spec (by kernel_rfl)
theorem mixed : Tryz.prog.follows .mixedOrders = true := by kernel_rfl
def bodyOf (f : Func) : Code := match f.body with
  | some c => c
  | none => .skip
abbrev Tab := List (Con D)
/-- the condition of a function -/
def vcOf (tab : Tab) (fn : Func) (k : Con D) (orc : k.Y → Orc D) (y : k.Y) : Prop := bodyW Tryz.prog D cdD (caT D tab) (orc y) fn.ntmps k (bodyOf fn) fn.results.toList y
abbrev Ok (k : Con D) : Prop := ConOk Tryz.prog D k
/-- with the count of arguments held against the frame -/
def vc (tab : Tab) (fn : Func) (k : Con D) (orc : k.Y → Orc D) (y : k.Y) : Prop := bif Nat.ble (lLen (k.args y)) fn.ntmps then vcOf tab fn k orc y else False
@[reducible] def Oks : Tab → Prop
  | [] => True
  | [k] => Ok k
  | k :: l => Ok k ∧ Oks l
theorem Oks.all : ∀ {l : Tab}, Oks l → ∀ k ∈ l, Ok k
  | [], _, k, hk => nomatch hk
  | [a], h, k, hk => by cases hk with
    | head => exact h
    | tail _ hk => cases hk
  | a :: b :: l, h, k, hk => by cases hk with
    | head => exact h.1
    | tail _ hk => exact Oks.all h.2 k hk
theorem lLen_length {α : Type} (l : List α) : lLen l = l.length := by
  induction l with
  | nil => rfl
  | cons a l ih => show Nat.succ (lLen l) = _; rw [ih]; rfl
theorem okB {fn : Func} {k : Con D} {tab : Tab} {orc : k.Y → Orc D} {y : k.Y} (h : vc tab fn k orc y) : (k.args y).length ≤ fn.ntmps ∧ vcOf tab fn k orc y := by
  unfold vc at h
  rw [lLen_length] at h
  cases hb : Nat.ble (k.args y).length fn.ntmps with
  | false => rw [hb] at h; exact h.elim
  | true => rw [hb] at h; exact ⟨Nat.le_of_ble_eq_true hb, h⟩
theorem body_some {fn : Func} (h : fn.body.isSome = true) : fn.body = some (bodyOf fn) := by
  unfold bodyOf
  cases hb : fn.body with
  | none => rw [hb] at h; cases h
  | some c => rfl
theorem okW {k : Con D} {fn : Func} {tab : Tab} {orc : k.Y → Orc D} {V : k.Y → Prop} (hV : ∀ y, V y = vc tab fn k orc y) (ht : Oks tab) (h : ∀ y, k.pre y → V y)
    (hfn : Tryz.prog.funcs[k.f]? = some fn := by kernel_rfl) (hc : fn.body.isSome = true := by kernel_rfl) : Ok k := by
  refine ⟨⟨fn, _, hfn, body_some hc⟩, fun y hy => ?_⟩
  obtain ⟨h1, h2⟩ := okB (Eq.mp (hV y) (h y hy))
  exact fun M A w hl hS hT R hR => call_of_body D_ok mixed noCount hfn (body_some hc) (caT_ok D_ok ht.all) h1 h2 M A w hl hS hT R hR
abbrev By := List UInt8
/-- rows of a printed condition that say nothing -/
def Rfs {α : Type} (l : List α) (p : Prop) : Prop := List.rec (motive := fun _ => Prop) p (fun a _ ih => a = a ∧ ih) l
@[simp] theorem Rfs_eq {α : Type} (l : List α) (p : Prop) : Rfs l p = p := by
  induction l with
  | nil => rfl
  | cons a l ih =>
    show (a = a ∧ Rfs l p) = p
    rw [ih]; simp
/-- closed truths; both sides of a truth -/
def Tt (n : Nat) (p : Prop) : Prop := Nat.rec (motive := fun _ => Prop) p (fun _ ih => true = true ∧ ih) n
@[simp] theorem Tt_eq (n : Nat) (p : Prop) : Tt n p = p := by
  induction n with
  | zero => rfl
  | succ n ih =>
    show (true = true ∧ Tt n p) = p
    rw [ih]; simp
def Bth (b : Bool) (p q : Prop) : Prop := (b = true → p) ∧ (b = false → q)
@[simp] theorem Bth_eq (b : Bool) (p q : Prop) : Bth b p q = ((b = true → p) ∧ (b = false → q)) := rfl
def gN {α : Type} (d : α) (l : List α) (x : Nat) : α := gt d l (Int.toNat (x : Int))
@[simp] theorem gN_eq {α : Type} (d : α) (l : List α) (x : Nat) : gN d l x = gt d l x := rfl
def noO {α : Type} (_ : α) : Orc D := ⟨[], [], [], [], 1, []⟩
end
end Go.Proofs.YtjdehneddakpnaaGreatDoor.sx
namespace Go.Proofs.YtjdehneddakpnaaGreatDoor.sx
open Go Go.RowKit
theorem ile_t {a b : Int} : ile a b = true ↔ a ≤ b := by simp [ile]
theorem ile_f {a b : Int} : ile a b = false ↔ b < a := by simp [ile]
theorem ilt_t {a b : Int} : ilt a b = true ↔ a < b := by simp [ilt]
theorem ilt_f {a b : Int} : ilt a b = false ↔ b ≤ a := by simp [ilt]
theorem ieq_t {a b : Int} : ieq a b = true ↔ a = b := by simp [ieq]
theorem ieq_f {a b : Int} : ieq a b = false ↔ a ≠ b := by simp [ieq]
theorem seq_t {a b : By} : seq a b = true ↔ a = b := by simp [seq]
theorem fits_t {n : Int} {b : Nat} : fits n b = true ↔ n * b ≤ 140737488355328 := by simp [fits]
theorem inR64 {n : Int} : inR .i64 n = true ↔ -9223372036854775808 ≤ n ∧ n ≤ 9223372036854775807 := by rw [inR_iff]; simp only [kMn, kMx]
theorem inRu64 {n : Int} : inR .u64 n = true ↔ 0 ≤ n ∧ n ≤ 18446744073709551615 := by rw [inR_iff]; simp only [kMn, kMx]
theorem iadd64 {a b : Int} (h1 : -9223372036854775808 ≤ a + b) (h2 : a + b ≤ 9223372036854775807) : iadd .i64 a b = a + b := inR_wrap (inR64.2 ⟨h1, h2⟩)
theorem icvU {a : Int} (h1 : 0 ≤ a) (h2 : a ≤ 18446744073709551615) : icv .u64 a = a := inR_wrap (inRu64.2 ⟨h1, h2⟩)
theorem imulU {a b : Int} (h1 : 0 ≤ a * b) (h2 : a * b ≤ 18446744073709551615) : imul .u64 a b = a * b := inR_wrap (inRu64.2 ⟨h1, h2⟩)
theorem llen_eq {α : Type} (l : List α) : llen l = (l.length : Int) := rfl
theorem lcat_eq {α : Type} (a b : List α) : lcat a b = a ++ b := rfl
theorem imul64 {a b : Int} (h1 : -9223372036854775808 ≤ a * b) (h2 : a * b ≤ 9223372036854775807) : imul .i64 a b = a * b := inR_wrap (inR64.2 ⟨h1, h2⟩)
theorem slen_eq (s : By) : slen s = (s.length : Int) := rfl
end Go.Proofs.YtjdehneddakpnaaGreatDoor.sx
namespace Go.Proofs.YtjdehneddakpnaaGreatDoor.sx
open Go Go.RowKit
def valF : Nat → By → Nat
  | a, [] => a
  | a, c :: r => valF (a * 10 + (c.toNat - 48)) r
def dig (c : UInt8) : Prop := 48 ≤ c.toNat ∧ c.toNat ≤ 57
theorem valF_app : ∀ (l : By) (a : Nat) (c : UInt8), valF a (l ++ [c]) = valF a l * 10 + (c.toNat - 48)
  | [], _, _ => rfl
  | x :: l, a, c => by
    show valF (a * 10 + (x.toNat - 48)) (l ++ [c]) = _
    rw [valF_app l]; rfl
theorem valF_ge : ∀ (l : By) (a : Nat), a ≤ valF a l
  | [], a => Nat.le_refl a
  | x :: l, a => Nat.le_trans (by omega) (valF_ge l (a * 10 + (x.toNat - 48)))
theorem valF_lt : ∀ (l : By) (a k : Nat), (∀ c ∈ l, dig c) → a < 10 ^ k → valF a l < 10 ^ (k + l.length)
  | [], a, k, _, h => h
  | x :: l, a, k, hd, h => by
    have hx := hd x List.mem_cons_self
    unfold dig at hx
    have := valF_lt l (a * 10 + (x.toNat - 48)) (k + 1) (fun c hc => hd c (List.mem_cons_of_mem _ hc)) (by rw [Nat.pow_succ]; omega)
    show valF (a * 10 + (x.toNat - 48)) l < _
    rw [List.length_cons, show k + (l.length + 1) = k + 1 + l.length by omega]
    exact this
theorem byte_of {c : UInt8} {n : Nat} (h : c.toNat = n) (hn : n < 256) : UInt8.ofNat n = c := by
  apply UInt8.toNat_inj.1
  rw [UInt8.toNat_ofNat', h]
  omega
theorem toNat_dig {n : Nat} (h : n < 10) : (UInt8.ofNat (48 + n)).toNat = 48 + n := by
  rw [UInt8.toNat_ofNat']; omega
/-- a numeral without zeros ahead of it -/
def lead (l : By) : Prop := l ≠ [] ∧ (∀ c ∈ l, dig c) ∧ (1 < l.length → ∀ c, l.head? = some c → c.toNat ≠ 48)
theorem lead_dec : ∀ (n : Nat) (l : By), l.length ≤ n → lead l → Lib.decDigits (valF 0 l) = l
  | 0, l, hn, h => absurd (List.eq_nil_of_length_eq_zero (by omega)) h.1
  | n + 1, l, hn, h => by
    obtain ⟨h1, h2, h3⟩ := h
    have hl := List.dropLast_concat_getLast h1
    generalize hx : l.getLast h1 = c at hl
    generalize hy : l.dropLast = m at hl
    subst hl
    have hc := h2 c (by simp)
    unfold dig at hc
    rw [valF_app]
    by_cases hm : m = []
    · subst hm
      show Lib.decDigits (0 * 10 + (c.toNat - 48)) = [c]
      rw [Lib.decDigits_one (by omega), byte_of (show c.toNat = 48 + (0 * 10 + (c.toNat - 48)) by omega) (by omega)]
    · have hml := List.length_pos_iff.2 hm
      have hq : lead m := ⟨hm, fun x hx => h2 x (by simp [hx]), fun hl x hx => h3 (by simp; omega) x (by
        cases m with
        | nil => exact absurd rfl hm
        | cons a r => simpa using hx)⟩
      have ih := lead_dec n m (by simp at hn; omega) hq
      have hpos : 1 ≤ valF 0 m := by
        cases m with
        | nil => exact absurd rfl hm
        | cons a r =>
          have ha := h2 a (by simp)
          have hz := h3 (by simp) a rfl
          unfold dig at ha
          exact Nat.le_trans (by omega) (valF_ge r (0 * 10 + (a.toNat - 48)))
      rw [Lib.decDigits, dif_neg (by omega), show (valF 0 m * 10 + (c.toNat - 48)) / 10 = valF 0 m by omega, ih, byte_of (show c.toNat = 48 + (valF 0 m * 10 + (c.toNat - 48)) % 10 by omega) (by omega)]
theorem dec_val (u : Nat) : valF 0 (Lib.decDigits u) = u ∧ lead (Lib.decDigits u) ∧ (1 ≤ u → ∀ c, (Lib.decDigits u).head? = some c → c.toNat ≠ 48) := by
  induction u using Nat.strongRecOn with
  | _ u ih =>
    by_cases h : u < 10
    · rw [Lib.decDigits_one h]
      have := toNat_dig h
      refine ⟨by show 0 * 10 + ((UInt8.ofNat (48 + u)).toNat - 48) = u; omega, ⟨by simp, fun c hc => ?_, by simp⟩, fun h1 c hc => ?_⟩
      · obtain rfl := List.mem_singleton.1 hc
        unfold dig; omega
      · have hc : UInt8.ofNat (48 + u) = c := Option.some.inj hc
        rw [← hc]; omega
    · have e : Lib.decDigits u = Lib.decDigits (u / 10) ++ [UInt8.ofNat (48 + u % 10)] := by rw [Lib.decDigits, dif_neg h]
      obtain ⟨i1, ⟨i2, i3, i4⟩, i5⟩ := ih (u / 10) (by omega)
      have hd := toNat_dig (show u % 10 < 10 by omega)
      have hh : ∀ c, (Lib.decDigits u).head? = some c → c.toNat ≠ 48 := fun c hc => by
        rw [e] at hc
        refine i5 (by omega) c ?_
        cases hq : Lib.decDigits (u / 10) with
        | nil => exact absurd hq i2
        | cons a r => rw [hq] at hc; simpa using hc
      refine ⟨by rw [e, valF_app, i1, hd]; omega, ⟨by rw [e]; simp, fun c hc => ?_, fun _ => hh⟩, fun _ => hh⟩
      rw [e] at hc
      rcases List.mem_append.1 hc with hc | hc
      · exact i3 c hc
      · obtain rfl := List.mem_singleton.1 hc
        unfold dig; omega
def MX : Nat := 4611686018427387904
def numOk (s : By) : Bool := decide (valF 0 s ≤ MX ∧ Lib.decDigits (valF 0 s) = s)
theorem numOk_iff {s : By} : numOk s = true ↔ ∃ u, u ≤ MX ∧ Lib.decDigits u = s := by
  unfold numOk
  rw [decide_eq_true_iff]
  constructor
  · exact fun h => ⟨_, h.1, h.2⟩
  · rintro ⟨u, h1, rfl⟩
    rw [(dec_val u).1]
    exact ⟨h1, rfl⟩
/-- what Atoi gives -/
def atoiN (s : By) : Int := match Lib.atoiAll s with
  | .ok v => v
  | .range => Lib.atoiSat s
  | _ => 0
def atoiE (s : By) : Bool := match Lib.atoiAll s with
  | .ok _ => true
  | _ => false
theorem parse_val : ∀ (l : By) (a : Nat), (∀ c ∈ l, dig c) → valF a l < 18446744073709551616 → Lib.parseUint10 a l = .ok (valF a l)
  | [], a, _, _ => rfl
  | x :: l, a, hd, h => by
    have hx := hd x List.mem_cons_self
    have h0 : valF (a * 10 + (x.toNat - 48)) l < 18446744073709551616 := h
    have h1 := valF_ge l (a * 10 + (x.toNat - 48))
    unfold dig at hx
    unfold Lib.parseUint10
    rw [if_pos hx, if_neg (by omega), if_neg (by omega)]
    exact parse_val l _ (fun c hc => hd c (List.mem_cons_of_mem _ hc)) h
theorem numOk_atoi {s : By} (h : numOk s = true) : Lib.atoiAll s = .ok (valF 0 s : Int) := by
  obtain ⟨u, hu, rfl⟩ := numOk_iff.1 h
  obtain ⟨h1, ⟨h2, h3, _⟩, _⟩ := dec_val u
  rw [h1]
  have hu : u ≤ 4611686018427387904 := hu
  have hp := parse_val (Lib.decDigits u) 0 h3 (by rw [h1]; omega)
  rw [h1] at hp
  generalize hl : Lib.decDigits u = l at *
  cases l with
  | nil => exact absurd rfl h2
  | cons c r =>
    have hc := h3 c List.mem_cons_self
    unfold dig at hc
    have hm : Lib.parseMag (c :: r) = .ok u := by
      unfold Lib.parseMag
      rw [if_neg (by simp)]
      exact hp
    unfold Lib.atoiAll
    simp only
    rw [if_neg (by omega), hm]
    simp only
    rw [if_neg (by omega), if_neg (by omega), if_neg (by omega)]
/-- the program's test of a number -/
theorem num_prog (s : By) : numOk s = (atoiE s && decide (0 ≤ atoiN s) && decide (atoiN s ≤ 4611686018427387904) && decide (Lib.itoa (atoiN s) = s)) := by
  cases h : numOk s with
  | true =>
    have := numOk_atoi h
    have hu := (decide_eq_true_iff.1 h)
    have h1 : valF 0 s ≤ 4611686018427387904 := hu.1
    unfold atoiE atoiN
    rw [this]
    simp only
    rw [Lib.itoa_nonneg, hu.2]
    simp; omega
  | false =>
    symm
    unfold atoiE atoiN
    cases ha : Lib.atoiAll s with
    | range => rfl
    | ok v =>
      simp only [Bool.true_and]
      refine Bool.eq_false_iff.2 fun hx => ?_
      simp only [Bool.and_eq_true, decide_eq_true_eq] at hx
      obtain ⟨⟨h0, h1⟩, h2⟩ := hx
      obtain ⟨u, rfl⟩ := Int.eq_ofNat_of_zero_le h0
      rw [Lib.itoa_nonneg] at h2
      have : numOk s = true := numOk_iff.2 ⟨u, by unfold MX; omega, h2⟩
      rw [h] at this; cases this
    | _ => rfl
theorem num_atoiN {s : By} (h : numOk s = true) : atoiN s = valF 0 s := by unfold atoiN; rw [numOk_atoi h]
/-- the document's reading of a number -/
def allDig (l : By) : Bool := l.all fun c => decide (48 ≤ c.toNat) && decide (c.toNat ≤ 57)
def belowF (s : By) : Bool := decide (1 < s.length) && decide (s.head? = some 45)
def digsF (s : By) : By := bif belowF s then s.drop 1 else s
def wholeE (s : By) : Bool := decide (digsF s ≠ []) && decide ((digsF s).length ≤ 19) && !(decide ((digsF s).head? = some 48) && (belowF s || decide (1 < (digsF s).length))) && allDig (digsF s) &&
  !(decide (9223372036854775808 < valF 0 (digsF s)) || (decide (valF 0 (digsF s) = 9223372036854775808) && !belowF s))
def wholeN (s : By) : Int := bif wholeE s then (bif belowF s then -(valF 0 (digsF s) : Int) else valF 0 (digsF s)) else 0
theorem allDig_iff {l : By} : allDig l = true ↔ ∀ c ∈ l, dig c := by
  unfold allDig dig
  simp [List.all_eq_true]
theorem dec_len19 {u : Nat} (h : u ≤ MX) : (Lib.decDigits u).length ≤ 19 := by
  obtain ⟨h1, ⟨h2, h3, h4⟩, _⟩ := dec_val u
  refine Nat.le_of_not_lt fun hl => ?_
  have hh : u ≤ 4611686018427387904 := h
  generalize hq : Lib.decDigits u = l at *
  cases l with
  | nil => exact absurd rfl h2
  | cons a r =>
    have ha := h3 a List.mem_cons_self
    have hz := h4 (by simp at hl ⊢; omega) a rfl
    unfold dig at ha
    have key : ∀ (r : By) (k : Nat), 1 ≤ k → 10 ^ r.length * k ≤ valF k r := fun r => by
      induction r with
      | nil => intro k hk; show 10 ^ 0 * k ≤ k; omega
      | cons x r ih =>
        intro k hk
        have := ih (k * 10 + (x.toNat - 48)) (by omega)
        show 10 ^ (r.length + 1) * k ≤ valF (k * 10 + (x.toNat - 48)) r
        refine Nat.le_trans ?_ this
        rw [Nat.pow_succ, Nat.mul_assoc]
        exact Nat.mul_le_mul_left _ (by omega)
    have k1 := key r (0 * 10 + (a.toNat - 48)) (by omega)
    have k2 : valF (0 * 10 + (a.toNat - 48)) r = u := h1
    have k3 : 10 ^ 19 ≤ 10 ^ r.length := Nat.pow_le_pow_right (by omega) (by simp at hl; omega)
    have k4 : 10 ^ r.length * 1 ≤ 10 ^ r.length * (0 * 10 + (a.toNat - 48)) := Nat.mul_le_mul_left _ (by omega)
    omega
theorem num_whole {s : By} (h : numOk s = true) : wholeE s = true ∧ wholeN s = valF 0 s := by
  obtain ⟨u, hu, rfl⟩ := numOk_iff.1 h
  obtain ⟨h1, ⟨h2, h3, h4⟩, _⟩ := dec_val u
  have h19 := dec_len19 hu
  have hu : u ≤ 4611686018427387904 := hu
  have hb : belowF (Lib.decDigits u) = false := by
    unfold belowF
    cases hq : Lib.decDigits u with
    | nil => rfl
    | cons a r =>
      have ha := h3 a (by rw [hq]; simp)
      unfold dig at ha
      have : ¬ (a = 45) := fun e => by subst e; simp at ha
      simp [this]
  have hd : digsF (Lib.decDigits u) = Lib.decDigits u := by unfold digsF; rw [hb]; rfl
  have he : wholeE (Lib.decDigits u) = true := by
    unfold wholeE
    rw [hd, hb, h1]
    have e1 : allDig (Lib.decDigits u) = true := allDig_iff.2 h3
    have e2 : (decide ((Lib.decDigits u).head? = some 48) && (false || decide (1 < (Lib.decDigits u).length))) = false := by
      refine Bool.eq_false_iff.2 fun hx => ?_
      simp only [Bool.false_or, Bool.and_eq_true, decide_eq_true_eq] at hx
      exact h4 hx.2 48 hx.1 rfl
    rw [e1, e2, decide_eq_true h2, decide_eq_true h19, decide_eq_false (by omega), decide_eq_false (by omega)]
    rfl
  refine ⟨he, ?_⟩
  unfold wholeN
  rw [he, hb, hd]
  rfl
theorem num_ref (s : By) : numOk s = (wholeE s && decide (0 ≤ wholeN s) && decide (wholeN s ≤ 4611686018427387904)) := by
  cases h : numOk s with
  | true =>
    obtain ⟨h1, h2⟩ := num_whole h
    have hu := (decide_eq_true_iff.1 h)
    have h3 : valF 0 s ≤ 4611686018427387904 := hu.1
    rw [h1, h2]
    simp; omega
  | false =>
    symm
    refine Bool.eq_false_iff.2 fun hx => ?_
    simp only [Bool.and_eq_true, decide_eq_true_eq] at hx
    obtain ⟨⟨h0, h1⟩, h2⟩ := hx
    have he := h0
    unfold wholeE at h0
    simp only [Bool.and_eq_true, decide_eq_true_eq, Bool.not_eq_true', Bool.or_eq_false_iff, Bool.and_eq_false_iff, decide_eq_false_iff_not] at h0
    obtain ⟨⟨⟨⟨a1, a2⟩, a3⟩, a4⟩, a5, a6⟩ := h0
    have a4 := allDig_iff.1 a4
    have hld : lead (digsF s) := ⟨a1, a4, fun hl c hc hz => by
      rcases a3 with a3 | a3
      · refine a3 (hc.trans (congrArg some ?_))
        exact UInt8.toNat_inj.1 (hz.trans rfl)
      · exact absurd hl a3.2⟩
    have hnb : belowF s = false := by
      cases hb : belowF s with
      | false => rfl
      | true =>
        exfalso
        unfold wholeN at h1
        rw [he, hb] at h1
        have h1 : (0 : Int) ≤ -(valF 0 (digsF s) : Int) := h1
        have hv : valF 0 (digsF s) = 0 := by omega
        have := lead_dec _ _ (Nat.le_refl _) hld
        rw [hv, Lib.decDigits_one (by omega)] at this
        rcases a3 with a3 | a3
        · exact a3 (by rw [← this]; rfl)
        · rw [hb] at a3; cases a3.1
    have hd : digsF s = s := by unfold digsF; rw [hnb]; rfl
    have hn : wholeN s = valF 0 s := by unfold wholeN; rw [he, hnb, hd]; rfl
    rw [hd] at hld
    rw [hn] at h2
    have : numOk s = true := numOk_iff.2 ⟨valF 0 s, by unfold MX; omega, lead_dec _ _ (Nat.le_refl _) hld⟩
    rw [h] at this; cases this
end Go.Proofs.YtjdehneddakpnaaGreatDoor.sx
namespace Go.Proofs.YtjdehneddakpnaaGreatDoor.sx
open Go Go.RowKit
def isPl (c : UInt8) : Bool := decide (33 ≤ c.toNat) && decide (c.toNat ≤ 126) && decide (c ≠ 34)
def plainF : By → Nat
  | [] => 0
  | c :: t => bif isPl c then plainF t + 1 else 0
def hexF (c : UInt8) : Int := if 48 ≤ c.toNat ∧ c.toNat ≤ 57 then (c.toNat : Int) - 48 else if 97 ≤ c.toNat ∧ c.toNat ≤ 102 then (c.toNat : Int) - 87 else -1
/-- what a backslash and what follows it say, and how many bytes these are -/
def signF (s : By) : UInt8 × Nat := match s with
  | _ :: c :: t =>
    if c = 34 ∨ c = 92 then (c, 2) else if c = 110 then (10, 2) else if c = 116 then (9, 2) else if c = 114 then (13, 2) else if c = 120 then (match t with
      | a :: b :: _ => if 0 ≤ hexF a ∧ 0 ≤ hexF b then (UInt8.ofNat (16 * hexF a + hexF b).toNat, 4) else (0, 0)
      | _ => (0, 0))
    else (0, 0)
  | _ => (0, 0)
/-- behind a quote: the bytes, and how many were taken -/
def qGo : Nat → By → Option (By × Nat)
  | 0, _ => none
  | _ + 1, [] => none
  | n + 1, c :: t =>
    if c = 34 then some ([], 1)
    else if c = 92 then (if (signF (c :: t)).2 = 0 then none else (qGo n ((c :: t).drop (signF (c :: t)).2)).map fun r => ((signF (c :: t)).1 :: r.1, r.2 + (signF (c :: t)).2))
    else if c.toNat < 32 ∨ 126 < c.toNat then none
    else (qGo n t).map fun r => (c :: r.1, r.2 + 1)
def quotF (s : By) : By × Nat := match qGo s.length (s.drop 1) with
  | some r => (r.1, r.2 + 1)
  | none => ([], 0)
def isQ (s : By) : Bool := decide (s.head? = some 34)
def wordF (s : By) : By × Nat := bif isQ s then quotF s else (s.take (plainF s), plainF s)
def wGo : Nat → By → Option (List Wd)
  | 0, _ => none
  | n + 1, s => if (wordF s).2 = 0 then none else match s.drop (wordF s).2 with
    | [] => some [((wordF s).1, isQ s)]
    | c :: t => if c = 32 then (wGo n t).map fun r => ((wordF s).1, isQ s) :: r else none
def wordsM (s : By) : Option (List Wd) := wGo (s.length + 1) s
def wordsF (s : By) : List Wd := (wordsM s).getD []
def wordsE (s : By) : Bool := (wordsM s).isSome
theorem signF_le (s : By) : (signF s).2 ≤ s.length ∧ ((signF s).2 = 0 ∨ 2 ≤ (signF s).2) := by
  unfold signF
  repeat' split
  all_goals simp
theorem qGo_le : ∀ (n : Nat) (s : By) (r : By × Nat), qGo n s = some r → 1 ≤ r.2 ∧ r.2 ≤ s.length ∧ r.1.length < r.2
  | 0, _, _, h => by cases h
  | _ + 1, [], _, h => by cases h
  | n + 1, c :: t, r, h => by
    unfold qGo at h
    split at h
    · cases h; simp
    · split at h
      · split at h
        · cases h
        · rename_i h0
          obtain ⟨q, hq, rfl⟩ := Option.map_eq_some_iff.1 h
          have := qGo_le n _ q hq
          have hs := signF_le (c :: t)
          rw [List.length_drop] at this
          refine ⟨by simp; omega, by simp only; omega, by simp only [List.length_cons]; omega⟩
      · split at h
        · cases h
        · obtain ⟨q, hq, rfl⟩ := Option.map_eq_some_iff.1 h
          have := qGo_le n _ q hq
          refine ⟨by simp, by simp only [List.length_cons]; omega, by simp only [List.length_cons]; omega⟩
theorem qGo_fuel : ∀ (n m : Nat) (s : By), s.length ≤ n → s.length ≤ m → qGo n s = qGo m s
  | 0, 0, _, _, _ => rfl
  | 0, m + 1, s, h, _ => by
    obtain rfl : s = [] := List.eq_nil_of_length_eq_zero (by omega)
    rfl
  | n + 1, 0, s, _, h => by
    obtain rfl : s = [] := List.eq_nil_of_length_eq_zero (by omega)
    rfl
  | n + 1, m + 1, s, h1, h2 => by
    cases s with
    | nil => rfl
    | cons c t =>
      simp only [List.length_cons] at h1 h2
      unfold qGo
      have hs := signF_le (c :: t)
      rw [qGo_fuel n m t (by omega) (by omega)]
      by_cases h0 : (signF (c :: t)).2 = 0
      · rw [if_pos h0, if_pos h0]
      · rw [qGo_fuel n m ((c :: t).drop (signF (c :: t)).2) (by rw [List.length_drop, List.length_cons]; omega) (by rw [List.length_drop, List.length_cons]; omega)]
theorem plainF_le (s : By) : plainF s ≤ s.length := by
  induction s with
  | nil => exact Nat.le_refl 0
  | cons c t ih =>
    unfold plainF
    cases isPl c with
    | true => simp only [cond_true, List.length_cons]; omega
    | false => simp
theorem wordF_le (s : By) : (wordF s).2 ≤ s.length ∧ (wordF s).1.length ≤ (wordF s).2 := by
  unfold wordF
  cases isQ s with
  | false =>
    have := plainF_le s
    simp only [cond_false, List.length_take]
    omega
  | true =>
    simp only [cond_true]
    unfold quotF
    cases h : qGo s.length (s.drop 1) with
    | none => simp
    | some r =>
      have := qGo_le _ _ r h
      simp only [List.length_drop] at this
      simp only
      omega
theorem wGo_fuel : ∀ (n m : Nat) (s : By), s.length < n → s.length < m → wGo n s = wGo m s
  | 0, _, s, h, _ => absurd h (by omega)
  | n + 1, 0, s, _, h => absurd h (by omega)
  | n + 1, m + 1, s, h1, h2 => by
    unfold wGo
    by_cases h0 : (wordF s).2 = 0
    · rw [if_pos h0, if_pos h0]
    · rw [if_neg h0, if_neg h0]
      have hw := wordF_le s
      cases hd : s.drop (wordF s).2 with
      | nil => rfl
      | cons c t =>
        have : (s.drop (wordF s).2).length = t.length + 1 := by rw [hd]; rfl
        rw [List.length_drop] at this
        simp only
        rw [wGo_fuel n m t (by omega) (by omega)]
/-- all words' bytes -/
def wsum (l : List Wd) : Nat := (l.map fun w => w.1.length).sum
theorem wGo_sum : ∀ (n : Nat) (s : By) (l : List Wd), wGo n s = some l → l ≠ [] ∧ wsum l + l.length ≤ s.length + 1
  | 0, _, _, h => by cases h
  | n + 1, s, l, h => by
    unfold wGo at h
    have hw := wordF_le s
    split at h
    · cases h
    · rename_i h0
      split at h
      · cases h; simp [wsum]; omega
      · rename_i c t hd
        have : (s.drop (wordF s).2).length = t.length + 1 := by rw [hd]; rfl
        rw [List.length_drop] at this
        split at h
        · obtain ⟨q, hq, rfl⟩ := Option.map_eq_some_iff.1 h
          have := wGo_sum n t q hq
          refine ⟨by simp, ?_⟩
          unfold wsum at *
          simp only [List.map_cons, List.sum_cons, List.length_cons]
          omega
        · cases h
structure Sv where
  kind : Int
  n : Int
  name : By
  to : By
  data : By
  rules : List Pat
  cont : By
def sv0 : Sv := ⟨0, 0, [], [], [], [], []⟩
def numW (w : Wd) : Bool := numOk w.1 && !w.2
def isK (k : UInt8) (w : Wd) : Bool := (decide (k = 113) == w.2) && (decide (k ≠ 110) || numW w)
def areF : List Wd → By → Bool
  | [], [] => true
  | w :: l, k :: ks => isK k w && areF l ks
  | _, _ => false
/-- "cont" -/
def contB : By := [99, 111, 110, 116]
def setGo : List Pat → List Wd → List Pat × By × Bool
  | acc, [] => (acc, [], true)
  | acc, [_] => (acc, [], false)
  | acc, a :: b :: t => bif !a.2 && b.2 then (if t = [] ∧ a.1 = contB then (acc, b.1, decide (b.1 ≠ [])) else setGo (acc ++ [(a.1, b.1)]) t) else (acc, [], false)
def rsetGo : List Pat → List Wd → List Pat × By × Bool
  | acc, [] => (acc, [], true)
  | _, [_] => ([], [], false)
  | acc, a :: b :: t => bif !a.2 && b.2 then (if t = [] ∧ a.1 = contB then (acc, b.1, decide (b.1 ≠ [])) else rsetGo (acc ++ [(a.1, b.1)]) t) else ([], [], false)
theorem rsetGo_eq : ∀ (acc : List Pat) (l : List Wd), (rsetGo acc l).2.2 = (setGo acc l).2.2 ∧ ((setGo acc l).2.2 = true → rsetGo acc l = setGo acc l)
  | acc, [] => ⟨rfl, fun _ => rfl⟩
  | acc, [_] => ⟨rfl, fun h => by cases h⟩
  | acc, a :: b :: t => by
    unfold rsetGo setGo
    cases !a.2 && b.2 with
    | false => exact ⟨rfl, fun h => by cases h⟩
    | true =>
      simp only [cond_true]
      by_cases h : t = [] ∧ a.1 = contB
      · rw [if_pos h, if_pos h]; exact ⟨rfl, fun _ => rfl⟩
      · rw [if_neg h, if_neg h]; exact rsetGo_eq _ t
theorem setGo_odd : ∀ (acc : List Pat) (l : List Wd), l.length % 2 = 1 → (setGo acc l).2.2 = false
  | acc, [], h => by simp at h
  | acc, [_], _ => rfl
  | acc, a :: b :: t, h => by
    unfold setGo
    cases !a.2 && b.2 with
    | false => rfl
    | true =>
      simp only [cond_true]
      rw [if_neg (fun hx => by rw [hx.1] at h; simp at h)]
      exact setGo_odd _ t (by simp only [List.length_cons] at h; omega)
def setF (l : List Wd) : List Pat × By × Bool := if l.length % 2 = 0 then setGo [] l else ([], [], false)
theorem rset_set (l : List Wd) : (rsetGo [] l).2.2 = (setF l).2.2 ∧ ((setF l).2.2 = true → rsetGo [] l = setF l) := by
  unfold setF
  by_cases h : l.length % 2 = 0
  · rw [if_pos h]; exact rsetGo_eq [] l
  · rw [if_neg h]
    refine ⟨?_, fun h => by cases h⟩
    rw [(rsetGo_eq [] l).1]; exact setGo_odd _ _ (by omega)
def wd (l : List Wd) (i : Nat) : Wd := l.getD i ([], false)
def w0 (l : List Wd) : By := (wd l 0).1
/-- the words of steps -/
def kCreate : By := [99, 114, 101, 97, 116, 101]
def kAppend : By := [97, 112, 112, 101, 110, 100]
def kRename : By := [114, 101, 110, 97, 109, 101]
def kCut : By := [99, 117, 116]
def kRemove : By := [114, 101, 109, 111, 118, 101]
def kPoll : By := [112, 111, 108, 108]
def kLoad : By := [108, 111, 97, 100]
def kQuery : By := [113, 117, 101, 114, 121]
def kCrash : By := [99, 114, 97, 115, 104]
def kOpen : By := [111, 112, 101, 110]
/-- the step of words whose first is plain -/
def stepF (l : List Wd) : Option Sv :=
  let r := l.drop 1
  if w0 l = kCreate then (if areF r [112] = true then some { sv0 with kind := 1, name := (wd l 1).1 } else none)
  else if w0 l = kRemove then (if areF r [112] = true then some { sv0 with kind := 5, name := (wd l 1).1 } else none)
  else if w0 l = kAppend then (if areF r [112, 113] = true then some { sv0 with kind := 2, name := (wd l 1).1, data := (wd l 2).1 } else none)
  else if w0 l = kRename then (if areF r [112, 112] = true then some { sv0 with kind := 3, name := (wd l 1).1, to := (wd l 2).1 } else none)
  else if w0 l = kCut then (if areF r [112, 110] = true then some { sv0 with kind := 4, name := (wd l 1).1, n := valF 0 (wd l 2).1 } else none)
  else if w0 l = kPoll then (if areF r [] = true then some { sv0 with kind := 6 } else none)
  else if w0 l = kOpen then (if areF r [] = true then some { sv0 with kind := 10 } else none)
  else if w0 l = kQuery then (if areF r [110] = true then some { sv0 with kind := 8, n := valF 0 (wd l 1).1 } else none)
  else if w0 l = kCrash then (if areF r [110] = true then some { sv0 with kind := 9, n := valF 0 (wd l 1).1 } else none)
  else if w0 l = kLoad then (if (setF r).2.2 = true then some { sv0 with kind := 7, rules := (setF r).1, cont := (setF r).2.1 } else none)
  else none
/-- a line's step; its number of refusal -/
def parseM (s : By) : Option Sv := if 2000 < s.length then none else match wordsM s with
  | none => none
  | some l => if (wd l 0).2 = true then none else stepF l
def parseF (s : By) : Sv := (parseM s).getD sv0
def parseN (s : By) : Int := if (parseM s).isSome then 0 else if 2000 < s.length then 2 else 4
def hexD (n : Nat) : UInt8 := if n < 10 then UInt8.ofNat (48 + n) else UInt8.ofNat (87 + n)
def escF (c : UInt8) : By := if c = 34 ∨ c = 92 then [92, c] else if c = 10 then [92, 110] else if c = 9 then [92, 116] else if c = 13 then [92, 114] else if 32 ≤ c.toNat ∧ c.toNat ≤ 126 then [c] else [92, 120, hexD (c.toNat / 16), hexD (c.toNat % 16)]
def escs (s : By) : By := s.flatMap escF
def shownF (s : By) : By := 34 :: (escs s ++ [34])
def ruleF (p : Pat) : By := 32 :: (p.1 ++ 32 :: shownF p.2)
def writF (s : Sv) : By :=
  if s.kind = 1 then kCreate ++ 32 :: s.name
  else if s.kind = 5 then kRemove ++ 32 :: s.name
  else if s.kind = 2 then kAppend ++ 32 :: (s.name ++ 32 :: shownF s.data)
  else if s.kind = 3 then kRename ++ 32 :: (s.name ++ 32 :: s.to)
  else if s.kind = 4 then kCut ++ 32 :: (s.name ++ 32 :: Lib.itoa s.n)
  else if s.kind = 6 then kPoll
  else if s.kind = 10 then kOpen
  else if s.kind = 8 then kQuery ++ 32 :: Lib.itoa s.n
  else if s.kind = 9 then kCrash ++ 32 :: Lib.itoa s.n
  else if s.kind = 7 then kLoad ++ (s.rules.flatMap ruleF ++ (if s.cont = [] then [] else 32 :: (contB ++ 32 :: shownF s.cont)))
  else []
def sameF (a b : Sv) : Bool := decide (a.kind = b.kind) && decide (a.n = b.n) && decide (a.name = b.name) && decide (a.to = b.to) && decide (a.data = b.data) && decide (a.cont = b.cont) && decide (a.rules = b.rules)
theorem sameF_iff {a b : Sv} : sameF a b = true ↔ a = b := by
  cases a; cases b
  unfold sameF
  simp only [Bool.and_eq_true, decide_eq_true_eq, Sv.mk.injEq]
  constructor
  · rintro ⟨⟨⟨⟨⟨⟨h1, h2⟩, h3⟩, h4⟩, h5⟩, h6⟩, h7⟩; exact ⟨h1, h2, h3, h4, h5, h7, h6⟩
  · rintro ⟨h1, h2, h3, h4, h5, h7, h6⟩; exact ⟨⟨⟨⟨⟨⟨h1, h2⟩, h3⟩, h4⟩, h5⟩, h6⟩, h7⟩
def lineF (s : Sv) : By := bif (parseM (writF s)).isSome && sameF (parseF (writF s)) s then writF s else []
/-- all bytes of a step -/
def bulkS (s : Sv) : Nat := s.name.length + s.to.length + s.data.length + s.cont.length + (s.rules.map fun p => p.1.length + p.2.length).sum
end Go.Proofs.YtjdehneddakpnaaGreatDoor.sx
namespace Go.Proofs.YtjdehneddakpnaaGreatDoor.sx
open Go Go.RowKit
theorem hexF_hexD : ∀ n : Nat, n < 16 → hexF (hexD n) = n ∧ 32 ≤ (hexD n).toNat ∧ (hexD n).toNat ≤ 126 := by decide
theorem escF_le (c : UInt8) : (escF c).length ≤ 4 ∧ ∀ x ∈ escF c, 32 ≤ x.toNat ∧ x.toNat ≤ 126 := by
  have h1 : c.toNat < 256 := c.toNat_lt
  have ha := (hexF_hexD (c.toNat / 16) (by omega)).2
  have hb := (hexF_hexD (c.toNat % 16) (by omega)).2
  unfold escF
  split
  · rename_i h
    refine ⟨by simp, fun x hx => ?_⟩
    rcases h with rfl | rfl <;> · simp at hx; rcases hx with rfl | rfl <;> decide
  split
  · refine ⟨by simp, fun x hx => ?_⟩
    simp at hx; rcases hx with rfl | rfl <;> decide
  split
  · refine ⟨by simp, fun x hx => ?_⟩
    simp at hx; rcases hx with rfl | rfl <;> decide
  split
  · refine ⟨by simp, fun x hx => ?_⟩
    simp at hx; rcases hx with rfl | rfl <;> decide
  split
  · rename_i h
    refine ⟨by simp, fun x hx => ?_⟩
    simp at hx; subst hx; exact h
  · refine ⟨by simp, fun x hx => ?_⟩
    simp at hx
    rcases hx with rfl | rfl | rfl | rfl
    · decide
    · decide
    · exact ha
    · exact hb
theorem sign_esc (c : UInt8) (t : By) : (escF c = [c] ∧ c ≠ 34 ∧ c ≠ 92 ∧ ¬ (c.toNat < 32 ∨ 126 < c.toNat)) ∨ (signF (escF c ++ t) = (c, (escF c).length) ∧ ∃ u, escF c = 92 :: u) := by
  have h1 : c.toNat < 256 := c.toNat_lt
  have ha := (hexF_hexD (c.toNat / 16) (by omega)).1
  have hb := (hexF_hexD (c.toNat % 16) (by omega)).1
  unfold escF
  by_cases k1 : c = 34 ∨ c = 92
  · rw [if_pos k1]
    refine Or.inr ⟨?_, [c], rfl⟩
    show (if c = 34 ∨ c = 92 then (c, 2) else _) = _
    rw [if_pos k1]; rfl
  rw [if_neg k1]
  by_cases k2 : c = 10
  · rw [if_pos k2]; subst k2; exact Or.inr ⟨rfl, _, rfl⟩
  rw [if_neg k2]
  by_cases k3 : c = 9
  · rw [if_pos k3]; subst k3; exact Or.inr ⟨rfl, _, rfl⟩
  rw [if_neg k3]
  by_cases k4 : c = 13
  · rw [if_pos k4]; subst k4; exact Or.inr ⟨rfl, _, rfl⟩
  rw [if_neg k4]
  by_cases k5 : 32 ≤ c.toNat ∧ c.toNat ≤ 126
  · rw [if_pos k5]
    exact Or.inl ⟨rfl, fun h => k1 (Or.inl h), fun h => k1 (Or.inr h), by omega⟩
  rw [if_neg k5]
  refine Or.inr ⟨?_, _, rfl⟩
  show (if 0 ≤ hexF (hexD (c.toNat / 16)) ∧ 0 ≤ hexF (hexD (c.toNat % 16)) then (UInt8.ofNat (16 * hexF (hexD (c.toNat / 16)) + hexF (hexD (c.toNat % 16))).toNat, 4) else ((0 : UInt8), 0)) = _
  rw [ha, hb, if_pos ⟨by omega, by omega⟩]
  have : (16 * ((c.toNat / 16 : Nat) : Int) + ((c.toNat % 16 : Nat) : Int)).toNat = c.toNat := by omega
  rw [this]
  simp
theorem qGo_esc : ∀ (p : By) (n : Nat) (r : By), (escs p).length + 1 ≤ n → qGo n (escs p ++ 34 :: r) = some (p, (escs p).length + 1)
  | [], n + 1, r, _ => by unfold qGo; simp [escs]
  | c :: p, 0, r, h => absurd h (by omega)
  | c :: p, n + 1, r, h => by
    have e : escs (c :: p) = escF c ++ escs p := by simp [escs]
    rw [e, List.length_append] at h
    rw [e, List.length_append, List.append_assoc]
    rcases sign_esc c (escs p ++ 34 :: r) with ⟨e1, k1, k2, k3⟩ | ⟨e1, u, e2⟩
    · rw [e1] at h ⊢
      have := qGo_esc p n r (by simp at h; omega)
      show qGo (n + 1) (c :: (escs p ++ 34 :: r)) = _
      unfold qGo
      rw [if_neg k1, if_neg k2, if_neg k3, this]
      simp; omega
    · have h4 := (escF_le c).1
      have hp : 1 ≤ (escF c).length := by rw [e2]; simp
      have := qGo_esc p n r (by omega)
      have hs : ∃ v, escF c ++ (escs p ++ 34 :: r) = 92 :: v := ⟨u ++ (escs p ++ 34 :: r), by rw [e2]; rfl⟩
      obtain ⟨v, hv⟩ := hs
      have hd : (92 :: v).drop (escF c).length = escs p ++ 34 :: r := by rw [← hv, List.drop_left]
      rw [hv] at e1
      rw [hv]
      unfold qGo
      rw [if_neg (by decide), if_pos rfl, e1]
      simp only
      rw [if_neg (by omega), hd, this]
      simp; omega
theorem esc_len (p : By) : (escs p).length ≤ 4 * p.length ∧ ∀ x ∈ escs p, 32 ≤ x.toNat ∧ x.toNat ≤ 126 := by
  induction p with
  | nil => simp [escs]
  | cons c p ih =>
    have e : escs (c :: p) = escF c ++ escs p := by simp [escs]
    have h := escF_le c
    rw [e]
    refine ⟨by rw [List.length_append, List.length_cons]; omega, fun x hx => ?_⟩
    rcases List.mem_append.1 hx with k | k
    · exact h.2 x k
    · exact ih.2 x k
theorem word_shown (p : By) : wordF (shownF p) = (p, (escs p).length + 2) := by
  have hq : isQ (shownF p) = true := rfl
  unfold wordF
  rw [hq, cond_true]
  unfold quotF
  have : qGo (shownF p).length ((shownF p).drop 1) = some (p, (escs p).length + 1) := by
    show qGo (shownF p).length (escs p ++ [34]) = _
    exact qGo_esc p _ [] (by unfold shownF; simp)
  rw [this]
theorem wGo_shown (n : Nat) (p : By) : wGo (n + 1) (shownF p) = some [(p, true)] := by
  unfold wGo
  rw [word_shown]
  have hl : (shownF p).length = (escs p).length + 2 := by unfold shownF; simp
  have : (shownF p).drop ((escs p).length + 2) = [] := by rw [← hl, List.drop_length]
  simp only
  rw [if_neg (by omega), this]
  rfl
theorem plainF_app : ∀ (a : By) (t : By), (∀ x ∈ a, isPl x = true) → plainF (a ++ 32 :: t) = a.length
  | [], t, _ => by rfl
  | c :: a, t, h => by
    show plainF (c :: (a ++ 32 :: t)) = _
    unfold plainF
    rw [h c (by simp), cond_true, plainF_app a t (fun x hx => h x (by simp [hx]))]
    rfl
theorem wGo_plain (n : Nat) (c : UInt8) (a t : By) (h : ∀ x ∈ c :: a, isPl x = true) : wGo (n + 1) ((c :: a) ++ 32 :: t) = (wGo n t).map fun r => (c :: a, false) :: r := by
  have hc : isPl c = true := h c (by simp)
  have hq : isQ ((c :: a) ++ 32 :: t) = false := by
    show decide (some c = some 34) = false
    refine decide_eq_false fun e => ?_
    cases e
    exact absurd hc (by decide)
  have hw : wordF ((c :: a) ++ 32 :: t) = (c :: a, (c :: a).length) := by
    unfold wordF
    rw [hq, cond_false, plainF_app (c :: a) t h, List.take_left' rfl]
  rw [wGo, hw]
  simp only
  rw [if_neg (by simp), List.drop_left' rfl, hq]
  simp only
  rw [if_pos trivial]
/-- a step that appends -/
def appS (p : By) : Sv := { sv0 with kind := 2, name := [108, 111, 103], data := p }
def cut450 (y : By) : By := y.take 450
theorem writ_app (p : By) : writF (appS p) = kAppend ++ 32 :: ([108, 111, 103] ++ 32 :: shownF p) := rfl
theorem parse_app {p : By} (hp : p.length ≤ 450) : parseM (writF (appS p)) = some (appS p) := by
  have hl := (esc_len p).1
  have hsl : (shownF p).length = (escs p).length + 2 := by unfold shownF; simp
  have hw : wordsM (writF (appS p)) = some [(kAppend, false), ([108, 111, 103], false), (p, true)] := by
    unfold wordsM
    rw [writ_app]
    have hn : ∃ m, (kAppend ++ 32 :: ([108, 111, 103] ++ 32 :: shownF p)).length + 1 = m + 1 + 1 + 1 := ⟨(shownF p).length + 9, by simp [kAppend]⟩
    obtain ⟨m, hm⟩ := hn
    rw [hm]
    rw [show kAppend ++ 32 :: ([108, 111, 103] ++ 32 :: shownF p) = ((97 :: [112, 112, 101, 110, 100]) ++ 32 :: ((108 :: [111, 103]) ++ 32 :: shownF p)) from rfl]
    rw [wGo_plain _ 97 _ _ (by decide), wGo_plain _ 108 _ _ (by decide), wGo_shown]
    rfl
  unfold parseM
  rw [if_neg (by rw [writ_app]; simp [kAppend]; omega), hw]
  rfl
theorem line_app {p : By} (hp : p.length ≤ 450) : lineF (appS p) = writF (appS p) := by
  unfold lineF
  have e : parseF (writF (appS p)) = appS p := by unfold parseF; rw [parse_app hp]; rfl
  rw [parse_app hp, e, sameF_iff.2 rfl]
  rfl
theorem line_app_good {p : By} (hp : p.length ≤ 450) : lineF (appS p) ≠ [] ∧ parseN (lineF (appS p)) = 0 ∧ parseF (lineF (appS p)) = appS p ∧ (lineF (appS p)).length ≤ 2000 ∧ ∀ x ∈ lineF (appS p), 32 ≤ x.toNat ∧ x.toNat ≤ 126 := by
  have hl := (esc_len p).1
  have hsl : (shownF p).length = (escs p).length + 2 := by unfold shownF; simp
  rw [line_app hp]
  refine ⟨by rw [writ_app]; simp [kAppend], by unfold parseN; rw [parse_app hp]; rfl, by unfold parseF; rw [parse_app hp]; rfl, by rw [writ_app]; simp [kAppend]; omega, ?_⟩
  rw [writ_app]
  intro x hx
  simp only [kAppend, shownF, List.mem_append, List.mem_cons, List.not_mem_nil, or_false] at hx
  have := (esc_len p).2 x
  rcases hx with (rfl | rfl | rfl | rfl | rfl | rfl) | rfl | (rfl | rfl | rfl) | rfl | rfl | k | rfl
  all_goals first
    | decide
    | exact this k
theorem cut_len (y : By) : (cut450 y).length ≤ 450 := by unfold cut450; rw [List.length_take]; omega
end Go.Proofs.YtjdehneddakpnaaGreatDoor.sx
namespace Go.Proofs
open Go.Shelf
def Tryz.lays137_ren : Go.Shelf.Ren := ⟨fun | 137 => 67 | 217 => 91 | 266 => 138 | n => n, fun | 9 => 9 | 5 => 5 | 3 => 3 | n => n, fun | n => n⟩
theorem Tryz.lays137 : Go.Proofs.Lays.n137 Tryz.prog Tryz.lays137_ren := {
  mixed := by kernel_rfl
  f137 := Tryz.func67.trans (congrArg some (by kernel_rfl))
  f217 := Tryz.func91.trans (congrArg some (by kernel_rfl))
  f266 := Tryz.func138.trans (congrArg some (by kernel_rfl))
  t3 := Tryz.underlying3
  a3 := Tryz.isAgg3
  z3 := Tryz.sizeOf3
  v3 := Tryz.zeroValue3
  t5 := Tryz.underlying5
  a5 := Tryz.isAgg5
  z5 := Tryz.sizeOf5
  v5 := Tryz.zeroValue5
  t9 := Tryz.underlying9
  a9 := Tryz.isAgg9
  z9 := Tryz.sizeOf9
  v9 := Tryz.zeroValue9 }
open Go.RowKit in
/-- strings.IndexByte: "IndexByte returns the index of the first instance of c in s, or -1 if c is not present in s.": IT RETURNS 'Lib.indexByte s c'; the world is as it was. (LAID: no walk: one application.) -/
theorem Tryz.strings_IndexByte (s : ByteArray) (c : Int) (w : World) :
    Calls Tryz.prog 67 #[.string s, .int .u8 c] w fun e w' => e = .returned (.int .i64 (Lib.indexByte s.data.toList c.toNat.toUInt8)) ∧ w' = w := Any.strings_IndexByte Tryz.lays137 s c w
def Tryz.laysM171_ren : Go.Shelf.Ren := ⟨fun | 171 => 28 | 243 => 47 | 246 => 66 | 283 => 87 | 284 => 88 | 285 => 89 | 286 => 90 | 129 => 134 | 317 => 133 | 318 => 135 | 319 => 136 | 320 => 137 | 337 => 194 | 338 => 195 | n => n, fun | 3 => 3 | 9 => 9 | 2 => 2 | 4 => 4 | 171 => 166 | 0 => 0 | 53 => 132 | 37 => 22 | 5 => 5 | 173 => 169 | 212 => 256 | 51 => 195 | 20 => 20 | 213 => 257 | 46 => 109 | 232 => 424 | 233 => 425 | n => n, fun | 17 => 1 | 18 => 4 | 19 => 5 | n => n⟩
theorem Tryz.laysM171 : Go.Proofs.LaysM.n171 Tryz.prog Tryz.laysM171_ren := {
  mixed := by kernel_rfl
  f129 := Tryz.func134.trans (congrArg some (by kernel_rfl))
  f171 := Tryz.func28.trans (congrArg some (by kernel_rfl))
  f243 := Tryz.func47.trans (congrArg some (by kernel_rfl))
  f246 := Tryz.func66.trans (congrArg some (by kernel_rfl))
  f283 := Tryz.func87.trans (congrArg some (by kernel_rfl))
  f284 := Tryz.func88.trans (congrArg some (by kernel_rfl))
  f285 := Tryz.func89.trans (congrArg some (by kernel_rfl))
  f286 := Tryz.func90.trans (congrArg some (by kernel_rfl))
  f317 := Tryz.func133.trans (congrArg some (by kernel_rfl))
  f318 := Tryz.func135.trans (congrArg some (by kernel_rfl))
  f319 := Tryz.func136.trans (congrArg some (by kernel_rfl))
  f320 := Tryz.func137.trans (congrArg some (by kernel_rfl))
  f337 := Tryz.func194.trans (congrArg some (by kernel_rfl))
  f338 := Tryz.func195.trans (congrArg some (by kernel_rfl))
  t0 := Tryz.underlying0
  a0 := Tryz.isAgg0
  z0 := Tryz.sizeOf0
  v0 := Tryz.zeroValue0
  t2 := Tryz.underlying2
  a2 := Tryz.isAgg2
  z2 := Tryz.sizeOf2
  v2 := Tryz.zeroValue2
  t3 := Tryz.underlying3
  a3 := Tryz.isAgg3
  z3 := Tryz.sizeOf3
  v3 := Tryz.zeroValue3
  t4 := Tryz.underlying4
  a4 := Tryz.isAgg4
  z4 := Tryz.sizeOf4
  v4 := Tryz.zeroValue4
  t5 := Tryz.underlying5
  a5 := Tryz.isAgg5
  z5 := Tryz.sizeOf5
  v5 := Tryz.zeroValue5
  t9 := Tryz.underlying9
  a9 := Tryz.isAgg9
  z9 := Tryz.sizeOf9
  v9 := Tryz.zeroValue9
  t20 := Tryz.underlying20
  a20 := Tryz.isAgg20
  z20 := Tryz.sizeOf20
  v20 := Tryz.zeroValue20
  t37 := Tryz.underlying22
  a37 := Tryz.isAgg22
  z37 := Tryz.sizeOf22
  v37 := Tryz.zeroValue22
  t46 := Tryz.underlying109
  a46 := Tryz.isAgg109
  z46 := Tryz.sizeOf109
  v46 := Tryz.zeroValue109
  t51 := Tryz.underlying195
  a51 := Tryz.isAgg195
  z51 := Tryz.sizeOf195
  v51 := Tryz.zeroValue195
  t53 := Tryz.underlying132
  a53 := Tryz.isAgg132
  z53 := Tryz.sizeOf132
  v53 := Tryz.zeroValue132
  t171 := Tryz.underlying166
  a171 := Tryz.isAgg166
  z171 := Tryz.sizeOf166
  v171 := Tryz.zeroValue166
  t173 := Tryz.underlying169
  a173 := Tryz.isAgg169
  z173 := Tryz.sizeOf169
  v173 := Tryz.zeroValue169
  t212 := Tryz.underlying256
  a212 := Tryz.isAgg256
  z212 := Tryz.sizeOf256
  v212 := Tryz.zeroValue256
  t213 := Tryz.underlying257
  a213 := Tryz.isAgg257
  z213 := Tryz.sizeOf257
  t232 := Tryz.underlying424
  a232 := Tryz.isAgg424
  z232 := Tryz.sizeOf424
  v232 := Tryz.zeroValue424
  t233 := Tryz.underlying425
  a233 := Tryz.isAgg425
  z233 := Tryz.sizeOf425
  v233 := Tryz.zeroValue425
  g17 := by kernel_rfl
  g18 := by kernel_rfl
  g19 := by kernel_rfl
  i0 := by kernel_rfl
  i2 := by kernel_rfl
  i3 := by kernel_rfl
  i4 := by kernel_rfl
  i5 := by kernel_rfl
  i9 := by kernel_rfl
  i20 := by kernel_rfl
  i37 := by kernel_rfl
  i46 := by kernel_rfl
  i51 := by kernel_rfl
  i53 := by kernel_rfl
  i171 := by kernel_rfl
  i173 := by kernel_rfl
  i212 := by kernel_rfl
  i232 := by kernel_rfl
  i233 := by kernel_rfl
  m17 := by kernel_rfl
  m18 := by kernel_rfl
  m19 := by kernel_rfl }
open Go.RowKit Go.Sort Go.Lib in
/-- strconv.Itoa: "Itoa is equivalent to FormatInt(int64(i), 10).": i's DECIMAL NUMERAL ('Lib.itoa': a '-' where i is negative, then the digits), FOR EVERY int. The world behind the call: the world before it, new blocks behind the heap (the library's 'var a [24]byte'), draws. (LAID: no walk: one application.) -/
theorem Tryz.strconv_Itoa (n : Int) (h0 : -9223372036854775808 ≤ n) (h1 : n ≤ 9223372036854775807) (w : World) (htab : Lib.TabIs Tryz.prog w "internal/strconv.uint64pow10" .u64 Lib.pow10Tab) :
    Calls Tryz.prog 28 #[.int .i64 n] w fun e w' => e = .returned (.string ⟨(Lib.itoa n).toArray⟩) ∧ ∃ k os, w' = grow (w.drewN k) os := Any.strconv_Itoa Tryz.laysM171 n h0 h1 w htab
def Tryz.laysC172_ren : Go.Shelf.Ren := ⟨fun | 172 => 50 | 244 => 68 | 245 => 69 | 247 => 92 | 279 => 93 | 280 => 94 | 281 => 95 | 282 => 96 | 287 => 139 | 316 => 140 | 171 => 28 | 205 => 141 | 321 => 196 | 322 => 197 | 243 => 47 | 246 => 66 | 283 => 87 | 284 => 88 | 285 => 89 | 286 => 90 | 129 => 134 | 317 => 133 | 318 => 135 | 319 => 136 | 320 => 137 | 337 => 194 | 338 => 195 | n => n, fun | 9 => 9 | 3 => 3 | 75 => 104 | 76 => 105 | 4 => 4 | 5 => 5 | 167 => 171 | 37 => 22 | 0 => 0 | 85 => 172 | 2 => 2 | 168 => 174 | 53 => 132 | 175 => 259 | 46 => 109 | 210 => 262 | 127 => 128 | 145 => 348 | 143 => 346 | 21 => 21 | 171 => 166 | 173 => 169 | 212 => 256 | 51 => 195 | 20 => 20 | 213 => 257 | 232 => 424 | 233 => 425 | 80 => 108 | n => n, fun | 15 => 2 | 16 => 3 | 17 => 1 | 18 => 4 | 19 => 5 | n => n⟩
theorem Tryz.laysC172 : Go.Proofs.LaysC.n172 Tryz.prog Tryz.laysC172_ren := {
  mixed := by kernel_rfl
  f129 := Tryz.func134.trans (congrArg some (by kernel_rfl))
  f171 := Tryz.func28.trans (congrArg some (by kernel_rfl))
  f172 := Tryz.func50.trans (congrArg some (by kernel_rfl))
  f205 := Tryz.func141.trans (congrArg some (by kernel_rfl))
  f243 := Tryz.func47.trans (congrArg some (by kernel_rfl))
  f244 := Tryz.func68.trans (congrArg some (by kernel_rfl))
  f245 := Tryz.func69.trans (congrArg some (by kernel_rfl))
  f246 := Tryz.func66.trans (congrArg some (by kernel_rfl))
  f247 := Tryz.func92.trans (congrArg some (by kernel_rfl))
  f279 := Tryz.func93.trans (congrArg some (by kernel_rfl))
  f280 := Tryz.func94.trans (congrArg some (by kernel_rfl))
  f281 := Tryz.func95.trans (congrArg some (by kernel_rfl))
  f282 := Tryz.func96.trans (congrArg some (by kernel_rfl))
  f283 := Tryz.func87.trans (congrArg some (by kernel_rfl))
  f284 := Tryz.func88.trans (congrArg some (by kernel_rfl))
  f285 := Tryz.func89.trans (congrArg some (by kernel_rfl))
  f286 := Tryz.func90.trans (congrArg some (by kernel_rfl))
  f287 := Tryz.func139.trans (congrArg some (by kernel_rfl))
  f316 := Tryz.func140.trans (congrArg some (by kernel_rfl))
  f317 := Tryz.func133.trans (congrArg some (by kernel_rfl))
  f318 := Tryz.func135.trans (congrArg some (by kernel_rfl))
  f319 := Tryz.func136.trans (congrArg some (by kernel_rfl))
  f320 := Tryz.func137.trans (congrArg some (by kernel_rfl))
  f321 := Tryz.func196.trans (congrArg some (by kernel_rfl))
  f322 := Tryz.func197.trans (congrArg some (by kernel_rfl))
  f337 := Tryz.func194.trans (congrArg some (by kernel_rfl))
  f338 := Tryz.func195.trans (congrArg some (by kernel_rfl))
  t0 := Tryz.underlying0
  a0 := Tryz.isAgg0
  z0 := Tryz.sizeOf0
  v0 := Tryz.zeroValue0
  t2 := Tryz.underlying2
  a2 := Tryz.isAgg2
  z2 := Tryz.sizeOf2
  v2 := Tryz.zeroValue2
  t3 := Tryz.underlying3
  a3 := Tryz.isAgg3
  z3 := Tryz.sizeOf3
  v3 := Tryz.zeroValue3
  t4 := Tryz.underlying4
  a4 := Tryz.isAgg4
  z4 := Tryz.sizeOf4
  v4 := Tryz.zeroValue4
  t5 := Tryz.underlying5
  a5 := Tryz.isAgg5
  z5 := Tryz.sizeOf5
  v5 := Tryz.zeroValue5
  t9 := Tryz.underlying9
  a9 := Tryz.isAgg9
  z9 := Tryz.sizeOf9
  v9 := Tryz.zeroValue9
  t20 := Tryz.underlying20
  a20 := Tryz.isAgg20
  z20 := Tryz.sizeOf20
  v20 := Tryz.zeroValue20
  t21 := Tryz.underlying21
  a21 := Tryz.isAgg21
  z21 := Tryz.sizeOf21
  v21 := Tryz.zeroValue21
  t37 := Tryz.underlying22
  a37 := Tryz.isAgg22
  z37 := Tryz.sizeOf22
  v37 := Tryz.zeroValue22
  t46 := Tryz.underlying109
  a46 := Tryz.isAgg109
  z46 := Tryz.sizeOf109
  v46 := Tryz.zeroValue109
  t51 := Tryz.underlying195
  a51 := Tryz.isAgg195
  z51 := Tryz.sizeOf195
  v51 := Tryz.zeroValue195
  t53 := Tryz.underlying132
  a53 := Tryz.isAgg132
  z53 := Tryz.sizeOf132
  v53 := Tryz.zeroValue132
  t75 := Tryz.underlying104
  a75 := Tryz.isAgg104
  z75 := Tryz.sizeOf104
  v75 := Tryz.zeroValue104
  t76 := Tryz.underlying105
  a76 := Tryz.isAgg105
  z76 := Tryz.sizeOf105
  v76 := Tryz.zeroValue105
  t85 := Tryz.underlying172
  a85 := Tryz.isAgg172
  z85 := Tryz.sizeOf172
  v85 := Tryz.zeroValue172
  t127 := Tryz.underlying128
  a127 := Tryz.isAgg128
  z127 := Tryz.sizeOf128
  v127 := Tryz.zeroValue128
  t143 := Tryz.underlying346
  a143 := Tryz.isAgg346
  z143 := Tryz.sizeOf346
  v143 := Tryz.zeroValue346
  t145 := Tryz.underlying348
  a145 := Tryz.isAgg348
  z145 := Tryz.sizeOf348
  v145 := Tryz.zeroValue348
  t167 := Tryz.underlying171
  a167 := Tryz.isAgg171
  z167 := Tryz.sizeOf171
  v167 := Tryz.zeroValue171
  t168 := Tryz.underlying174
  a168 := Tryz.isAgg174
  z168 := Tryz.sizeOf174
  v168 := Tryz.zeroValue174
  t171 := Tryz.underlying166
  a171 := Tryz.isAgg166
  z171 := Tryz.sizeOf166
  v171 := Tryz.zeroValue166
  t173 := Tryz.underlying169
  a173 := Tryz.isAgg169
  z173 := Tryz.sizeOf169
  v173 := Tryz.zeroValue169
  t175 := Tryz.underlying259
  a175 := Tryz.isAgg259
  z175 := Tryz.sizeOf259
  v175 := Tryz.zeroValue259
  t210 := Tryz.underlying262
  a210 := Tryz.isAgg262
  z210 := Tryz.sizeOf262
  v210 := Tryz.zeroValue262
  t212 := Tryz.underlying256
  a212 := Tryz.isAgg256
  z212 := Tryz.sizeOf256
  v212 := Tryz.zeroValue256
  t213 := Tryz.underlying257
  a213 := Tryz.isAgg257
  z213 := Tryz.sizeOf257
  t232 := Tryz.underlying424
  a232 := Tryz.isAgg424
  z232 := Tryz.sizeOf424
  v232 := Tryz.zeroValue424
  t233 := Tryz.underlying425
  a233 := Tryz.isAgg425
  z233 := Tryz.sizeOf425
  v233 := Tryz.zeroValue425
  g15 := by kernel_rfl
  g16 := by kernel_rfl
  g17 := by kernel_rfl
  g18 := by kernel_rfl
  g19 := by kernel_rfl
  t80 := Tryz.underlying108
  a80 := Tryz.isAgg108
  z80 := Tryz.sizeOf108
  v80 := Tryz.zeroValue108
  i0 := by kernel_rfl
  i2 := by kernel_rfl
  i3 := by kernel_rfl
  i4 := by kernel_rfl
  i5 := by kernel_rfl
  i9 := by kernel_rfl
  i20 := by kernel_rfl
  i21 := by kernel_rfl
  i37 := by kernel_rfl
  i46 := by kernel_rfl
  i51 := by kernel_rfl
  i53 := by kernel_rfl
  i75 := by kernel_rfl
  i76 := by kernel_rfl
  i80 := by kernel_rfl
  i85 := by kernel_rfl
  i127 := by kernel_rfl
  i143 := by kernel_rfl
  i145 := by kernel_rfl
  i167 := by kernel_rfl
  i168 := by kernel_rfl
  i171 := by kernel_rfl
  i173 := by kernel_rfl
  i175 := by kernel_rfl
  i210 := by kernel_rfl
  i212 := by kernel_rfl
  i232 := by kernel_rfl
  i233 := by kernel_rfl
  m15 := by kernel_rfl
  m16 := by kernel_rfl
  m17 := by kernel_rfl
  m18 := by kernel_rfl
  m19 := by kernel_rfl
  c0 := by kernel_rfl
  c2 := by kernel_rfl
  c3 := by kernel_rfl
  c4 := by kernel_rfl
  c5 := by kernel_rfl
  c9 := by kernel_rfl
  c20 := by kernel_rfl
  c21 := by kernel_rfl
  c37 := by kernel_rfl
  c46 := by kernel_rfl
  c51 := by kernel_rfl
  c53 := by kernel_rfl
  c75 := by kernel_rfl
  c76 := by kernel_rfl
  c80 := by kernel_rfl
  c85 := by kernel_rfl
  c127 := by kernel_rfl
  c143 := by kernel_rfl
  c145 := by kernel_rfl
  c167 := by kernel_rfl
  c168 := by kernel_rfl
  c171 := by kernel_rfl
  c173 := by kernel_rfl
  c175 := by kernel_rfl
  c210 := by kernel_rfl
  c212 := by kernel_rfl
  c213 := by kernel_rfl
  c232 := by kernel_rfl
  c233 := by kernel_rfl }
open Go.RowKit in
/-- strconv.Atoi, AT EVERY STRING THAT SPELLS AN int ('Lib.atoiAll .. = .ok v'; of whatever length: leading zeros count): v, AND NO ERROR. The world: as it was, or with the one new row that '[]byte(..)' lays. (LAID: no walk: one application.) -/
theorem Tryz.strconv_Atoi_ok (s : ByteArray) (hmax : s.size ≤ 9223372036854775806) (v : Int) (h : Lib.atoiAll s.data.toList = .ok v) (w : World) :
    Calls Tryz.prog 50 #[.string s] w fun e w' => e = .returned (.tuple #[.int .i64 v, .nilIface]) ∧ (w' = w ∨ ∃ t, w' = Lib.bytesWorld w 5 t) := Any.strconv_Atoi_ok Tryz.laysC172 s hmax v h w
open Go.RowKit in
/-- strconv.Atoi, AT EVERY STRING THAT IS NO DECIMAL NUMERAL (no number): 0, AND AN ERROR THAT IS NOT nil: a *NumError in a new block N: {Func: "Atoi", Num: s's bytes, Err: what the variable ErrSyntax holds}. Of what was there nothing has turned. (LAID: no walk: one application.) -/
theorem Tryz.strconv_Atoi_syntax (s : ByteArray) (hlim : s.size ≤ 281474976710656) (h : Lib.atoiAll s.data.toList = Lib.NumEnd.syntax) (ev : Value) (w : World) (hv : w.cell? ⟨2, 0, none⟩ = some ev) (hev : ev = .nilIface ∨ ∃ te pe, ev = .iface te pe) :
    Calls Tryz.prog 50 #[.string s] w fun e w' => ∃ N, e = .returned (.tuple #[.int .i64 (0), .iface 174 (.pointer (some ⟨N, 0, none⟩))]) ∧ w.heap.size ≤ N ∧ w'.heap[N]? = some (.cells #[.string ⟨#[65, 116, 111, 105]⟩, .string s, ev] 262 (0, 0)) ∧ Below w.heap.size w w' := Any.strconv_Atoi_syntax Tryz.laysC172 s hlim h ev w hv hev
open Go.RowKit in
/-- strconv.Atoi, AT EVERY NUMERAL THAT NO int HOLDS ('.range'): THE GREATEST OR THE LEAST int, BY THE SIGN ('Lib.atoiSat'), AND AN ERROR THAT IS NOT nil: a *NumError in a new block N: {Func: "Atoi", Num: s's bytes, Err: what the variable ErrRange holds}. Of what was there nothing has turned. (LAID: no walk: one application.) -/
theorem Tryz.strconv_Atoi_range (s : ByteArray) (hlim : s.size ≤ 281474976710656) (h : Lib.atoiAll s.data.toList = .range) (ev : Value) (w : World) (hv : w.cell? ⟨3, 0, none⟩ = some ev) (hev : ev = .nilIface ∨ ∃ te pe, ev = .iface te pe) :
    Calls Tryz.prog 50 #[.string s] w fun e w' => ∃ N, e = .returned (.tuple #[.int .i64 (Lib.atoiSat s.data.toList), .iface 174 (.pointer (some ⟨N, 0, none⟩))]) ∧ w.heap.size ≤ N ∧ w'.heap[N]? = some (.cells #[.string ⟨#[65, 116, 111, 105]⟩, .string s, ev] 262 (0, 0)) ∧ Below w.heap.size w w' := Any.strconv_Atoi_range Tryz.laysC172 s hlim h ev w hv hev
end Go.Proofs
namespace Go.Proofs.YtjdehneddakpnaaGreatDoor.sx
open Go Go.RowKit
noncomputable section
/-- a contract without memory -/
abbrev con0 (f : FuncId) (Y : Type) (inp : List (AV D.E) → St D.E → C Y) (pre : Y → Prop) (args : Y → List (AV D.E)) (res : Y → AV D.E) : Con D := ⟨f, Y, inp, pre, args, fun _ => [], res, fun _ => [], 0, 0⟩
def in1 (args : List (AV D.E)) : C Int := match args with
  | [a] => bnd2 (asI a) fun _ n => .ret n
  | _ => .fail
def inS (args : List (AV D.E)) : C By := match args with
  | [a] => asStr a
  | _ => .fail
def inSS (args : List (AV D.E)) : C (By × By) := match args with
  | [a, b] => bnd (asStr a) fun x => bnd (asStr b) fun y => .ret (x, y)
  | _ => .fail
def inSI (args : List (AV D.E)) : C (By × Int) := match args with
  | [a, b] => bnd (asStr a) fun x => bnd2 (asI b) fun _ n => .ret (x, n)
  | _ => .fail
def inWs (args : List (AV D.E)) (s : St D.E) : C (List Wd) := match args with
  | [a] => bnd (rowsOf D s 1 a) fun l => .ret (l : List Wd)
  | _ => .fail
def inWS (args : List (AV D.E)) (s : St D.E) : C (List Wd × By) := match args with
  | [a, b] => bnd (rowsOf D s 1 a) fun l => bnd (asStr b) fun x => .ret ((l : List Wd), x)
  | _ => .fail
/-- a word alone -/
def inWd (args : List (AV D.E)) : C Wd := match args with
  | [x] => bnd (asAgg x) fun l => match l with
    | [a, b] => bnd (asStr a) fun s => bnd2 (asT b) fun q _ => .ret (s, q)
    | _ => .fail
  | _ => .fail
def isB (y : Int) : Prop := 0 ≤ y ∧ y < 256
def shortW (l : List Wd) : Prop := ∀ w ∈ l, w.1.length ≤ 2000
def preF (s p : By) : Bool := decide (p.length ≤ s.length) && decide (s.take p.length = p)
def lhpC : Con D := con0 48 (By × By) (fun a _ => inSS a) (fun _ => True) (fun y => [.str y.1, .str y.2]) fun y => .bool (preF y.1 y.2)
def lhpV (y : lhpC.Y) : Prop := vc [] Tryz.f48 lhpC noO y
def hprC : Con D := { lhpC with f := 31 }
def hprV (y : hprC.Y) : Prop := vc [lhpC] Tryz.f31 hprC noO y
def idxC : Con D := con0 67 (By × Int) (fun a _ => inSI a) (fun y => isB y.2) (fun y => [.str y.1, .int .u8 y.2]) fun y => .int .i64 (Lib.indexByte y.1 (b8 y.2))
def signC : Con D := con0 49 By (fun a _ => inS a) (fun _ => True) (fun y => [.str y]) fun y => .tuple [.int .u8 ((signF y).1.toNat : Nat), .int .i64 ((signF y).2 : Nat)]
def signV (y : signC.Y) : Prop := vc [idxC] Tryz.f49 signC noO y
/-- what is read behind a quote: with enough fuel -/
def qG (s : By) : Option (By × Nat) := qGo s.length s
def quoC : Con D := con0 32 By (fun a _ => inS a) (fun y => 1 ≤ y.length ∧ y.length ≤ 2000) (fun y => [.str y]) fun y => .tuple [.str (quotF y).1, .int .i64 ((quotF y).2 : Nat)]
/-- i bytes were taken, out is what they said -/
def quoI (y : By) (i : Nat) (out : By) : Prop := 1 ≤ i ∧ i ≤ y.length ∧ out.length < i ∧ qG (y.drop 1) = (qG (y.drop i)).map fun r => (out ++ r.1, r.2 + (i - 1))
def quoO (y : quoC.Y) : Orc D := ⟨[], [], [(60, { X := Nat × By, keep := [0], sl := fun x => [(4, .grow 0 x.2 0), (5, .int .i64 x.1)], kp := [], pc := fun _ => [(0, .tok 0 5)], nx := 1, inv := fun x => quoI y x.1 x.2, me := fun x => y.length - x.1 })], [], 1, []⟩
def quoV (y : quoC.Y) : Prop := vc [signC] Tryz.f32 quoC quoO y
def plaC : Con D := con0 33 By (fun a _ => inS a) (fun y => y.length ≤ 2000) (fun y => [.str y]) fun y => .int .i64 (plainF y : Nat)
def plaO (y : plaC.Y) : Orc D := ⟨[], [], [(28, { X := Nat, keep := [0], sl := fun x => [(3, .int .i64 x)], kp := [], pc := fun _ => [], nx := 0, inv := fun x => x ≤ y.length ∧ plainF y = x + plainF (y.drop x), me := fun x => y.length - x })], [], 1, []⟩
def plaV (y : plaC.Y) : Prop := vc [] Tryz.f33 plaC plaO y
def wG (s : By) : Option (List Wd) := wGo (s.length + 1) s
def worC : Con D := con0 19 By (fun a _ => inS a) (fun y => y.length ≤ 2000) (fun y => [.str y]) fun y => .tuple [.list 1 (wordsF y), .bool (wordsE y)]
def worO (y : worC.Y) : Orc D := ⟨[], [], [(14, { X := By × List Wd, keep := [], sl := fun x => [(0, .str x.1), (4, .grow 1 x.2 0)], kp := [], pc := fun _ => [(0, .tok 1 86)], nx := 1, inv := fun x => x.1.length + x.2.length ≤ y.length ∧ wordsM y = (wG x.1).map (x.2 ++ ·), me := fun x => x.1.length })], [], 1, []⟩
def worV (y : worC.Y) : Prop := vc [hprC, quoC, plaC] Tryz.f19 worC worO y
/-- Atoi: whether there is an error is known behind the call -/
def atoC : Con D := con0 50 (By × Bool) (fun a _ => bnd (inS a) fun s => .split (atoiE s) (.ret (s, true)) (.ret (s, false))) (fun y => y.1.length ≤ 2000 ∧ y.2 = atoiE y.1) (fun y => [.str y.1])
  fun y => match y.2 with
    | true => .tuple [.int .i64 (atoiN y.1), .nilIface]
    | false => .tuple [.int .i64 (atoiN y.1), .iface 174 (.pel 6 () 0)]
def itoC : Con D := con0 28 Int (fun a _ => in1 a) (fun y => inR .i64 y = true) (fun y => [.int .i64 y]) fun y => .str (Lib.itoa y)
def numC : Con D := con0 35 Wd (fun a _ => inWd a) (fun y => y.1.length ≤ 2000) (fun y => [.agg [.str y.1, .bool y.2]]) fun y => .tuple [.int .i64 (atoiN y.1), .bool (numW y)]
def numO (_ : numC.Y) : Orc D := ⟨[(2, .fact 4)], [], [], [], 1, []⟩
def numV (y : numC.Y) : Prop := vc [atoC, itoC] Tryz.f35 numC numO y
end
end Go.Proofs.YtjdehneddakpnaaGreatDoor.sx
namespace Go.Proofs.YtjdehneddakpnaaGreatDoor.sx
open Go Go.RowKit
def lhpVC (y : Prod (List UInt8) (List UInt8)) : Prop :=
 let q0 := preF y.1 y.2;
 let q1 := ile (slen y.2) (slen y.1);
 Bth q1 (
  ((ile (0 : Int) (slen y.2)) = true) ∧
  ((ile (slen y.2) (llen y.1)) = true) ∧
  ((seq (ltake y.1 (slen y.2)) y.2) = q0) ∧
  True) (
  (false = q0) ∧
  True)
theorem lhpV_eq : ∀ y, lhpVC y = lhpV y := fun y => by kernel_rfl
def hprVC (y : Prod (List UInt8) (List UInt8)) : Prop :=
 let q0 := preF y.1 y.2;
 (Iv True) ∧
 Rfs [y.1, y.2] (
  Rfs [q0] (
  True))
theorem hprV_eq : ∀ y, hprVC y = hprV y := fun y => by kernel_rfl
def signVC (y : List UInt8) : Prop :=
 let q0 := sat y (1 : Int);
 let q1 := sat y (3 : Int);
 let q2 := sat y (2 : Int);
 let q3 := ilt (slen y) (2 : Int);
 let q4 := ile (4 : Int) (slen y);
 let q5 := (((signF y).2 : Nat) : Int);
 let q6 := ((UInt8.toNat (signF y).1 : Nat) : Int);
 let q7 := ieq q0 (116 : Int);
 let q8 := ieq q0 (114 : Int);
 let q9 := ieq q0 (120 : Int);
 let q10 := ieq q0 (110 : Int);
 let q11 := ieq q0 (34 : Int);
 let q12 := ieq q0 (92 : Int);
 let q13 : Prop := (
 ((0 : Int) = q6) ∧
 ((0 : Int) = q5) ∧
 True);
 let q14 : Prop := (
 Tt 1 (
  ((ilt (1 : Int) (slen y)) = true) ∧
  (q0 = q6) ∧
  ((2 : Int) = q5) ∧
  True));
 let q15 := Lib.indexByte ((48 : UInt8) :: ((49 : UInt8) :: ((50 : UInt8) :: ((51 : UInt8) :: ((52 : UInt8) :: ((53 : UInt8) :: ((54 : UInt8) :: ((55 : UInt8) :: ((56 : UInt8) :: ((57 : UInt8) :: ((97 : UInt8) :: ((98 : UInt8) :: ((99 : UInt8) :: ((100 : UInt8) :: ((101 : UInt8) :: ((102 : UInt8) :: ([] : List UInt8))))))))))))))))) (b8 q1);
 let q16 := Lib.indexByte ((48 : UInt8) :: ((49 : UInt8) :: ((50 : UInt8) :: ((51 : UInt8) :: ((52 : UInt8) :: ((53 : UInt8) :: ((54 : UInt8) :: ((55 : UInt8) :: ((56 : UInt8) :: ((57 : UInt8) :: ((97 : UInt8) :: ((98 : UInt8) :: ((99 : UInt8) :: ((100 : UInt8) :: ((101 : UInt8) :: ((102 : UInt8) :: ([] : List UInt8))))))))))))))))) (b8 q2);
 let q17 := ile (0 : Int) q15;
 let q18 := ile (0 : Int) q16;
 let q19 : Prop := (
 Bth q10 (
  ((10 : Int) = q6) ∧
  ((2 : Int) = q5) ∧
  True) (
  Bth q7 (
  ((9 : Int) = q6) ∧
  ((2 : Int) = q5) ∧
  True) (
  Bth q8 (
  ((13 : Int) = q6) ∧
  ((2 : Int) = q5) ∧
  True) (
  Bth q9 (
  Bth q4 (
  Tt 1 (
  ((ilt (2 : Int) (slen y)) = true) ∧
  (Iv (isB q2)) ∧
  Rfs [((48 : UInt8) :: ((49 : UInt8) :: ((50 : UInt8) :: ((51 : UInt8) :: ((52 : UInt8) :: ((53 : UInt8) :: ((54 : UInt8) :: ((55 : UInt8) :: ((56 : UInt8) :: ((57 : UInt8) :: ((97 : UInt8) :: ((98 : UInt8) :: ((99 : UInt8) :: ((100 : UInt8) :: ((101 : UInt8) :: ((102 : UInt8) :: ([] : List UInt8)))))))))))))))))] (
  Rfs [q2] (
  Tt 1 (
  ((ilt (3 : Int) (slen y)) = true) ∧
  (Iv (isB q1)) ∧
  Rfs [((48 : UInt8) :: ((49 : UInt8) :: ((50 : UInt8) :: ((51 : UInt8) :: ((52 : UInt8) :: ((53 : UInt8) :: ((54 : UInt8) :: ((55 : UInt8) :: ((56 : UInt8) :: ((57 : UInt8) :: ((97 : UInt8) :: ((98 : UInt8) :: ((99 : UInt8) :: ((100 : UInt8) :: ((101 : UInt8) :: ((102 : UInt8) :: ([] : List UInt8)))))))))))))))))] (
  Rfs [q1] (
  Bth q18 (
  Bth q17 (
  ((icv .u8 (iadd .i64 (imul .i64 (16 : Int) q16) q15)) = q6) ∧
  ((4 : Int) = q5) ∧
  True) (
  q13)) (
  q13)))))))) (
  q13)) (
  q13)))));
 Bth q3 (
  q13) (
  Tt 1 (
  ((ilt (1 : Int) (slen y)) = true) ∧
  Bth q11 (
  Bth q11 (
  q14) (
  q19)) (
  Bth q12 (
  q14) (
  q19))))
theorem signV_eq : ∀ y, signVC y = signV y := fun y => by kernel_rfl
def quoVC (y : List UInt8) : Prop :=
 let q0 := List.length y;
 let q1 := (quotF y).1;
 let q2 := (((quotF y).2 : Nat) : Int);
 let q3 : Prop := (
 (([] : List UInt8) = q1) ∧
 ((0 : Int) = q2) ∧
 True);
 (
  ∃ z : Prod Nat (List UInt8),
  Rfs [y] (
  (([] : List UInt8) = z.2) ∧
  ((1 : Int) = ((z.1 : Nat) : Int)) ∧
  (Iv (quoI y z.1 z.2)))) ∧
 (
  ∀ x : Prod Nat (List UInt8),
 let q4 := ((x.1 : Nat) : Int);
 let q5 := ilt q4 (slen y);
 let q6 := ldrop y q4;
 let q7 := ile (slen y) q4;
 let q8 := iadd .i64 q4 (1 : Int);
 let q9 := ilt (sat y q4) (32 : Int);
 let q10 := ieq (sat y q4) (92 : Int);
 let q11 := ilt (126 : Int) (sat y q4);
 let q12 := Bool.not (ieq (sat y q4) (34 : Int));
 let q13 := (((signF q6).2 : Nat) : Int);
 let q14 := lcat x.2 ((b8 (sat y q4)) :: ([] : List UInt8));
 let q15 := ieq q13 (0 : Int);
 let q16 := lcat x.2 ((b8 ((UInt8.toNat (signF q6).1 : Nat) : Int)) :: ([] : List UInt8));
 let q17 : Prop := (
 Bth q7 (
  q3) (
  (x.2 = q1) ∧
  (q8 = q2) ∧
  True));
  (Iv (quoI y x.1 x.2)) →
  Bth q5 (
  ((ile (0 : Int) q4) = true) ∧
  (q5 = true) ∧
  Bth q12 (
  ((ile (0 : Int) q4) = true) ∧
  (q5 = true) ∧
  Bth q10 (
  ((ile (0 : Int) q4) = true) ∧
  ((ile q4 (llen y)) = true) ∧
  (Iv True) ∧
  Rfs [q6] (
  Bth q15 (
  q3) (
  ((fits (llen q16) 1) = true) ∧
  ∃ z : Prod Nat (List UInt8),
  Rfs [y] (
  (q16 = z.2) ∧
  ((iadd .i64 q4 q13) = ((z.1 : Nat) : Int)) ∧
  (Iv ((quoI y z.1 z.2) ∧ ((q0 : Nat) - z.1 : Nat) < ((q0 : Nat) - x.1))))))) (
  Bth q9 (
  q3) (
  Bth q11 (
  q3) (
  ((fits (llen q14) 1) = true) ∧
  ∃ z : Prod Nat (List UInt8),
  Rfs [y] (
  (q14 = z.2) ∧
  (q8 = ((z.1 : Nat) : Int)) ∧
  (Iv ((quoI y z.1 z.2) ∧ ((q0 : Nat) - z.1 : Nat) < ((q0 : Nat) - x.1)))))))) (
  q17)) (
  q17))
theorem quoV_eq : ∀ y, quoVC y = quoV y := fun y => by kernel_rfl
def plaVC (y : List UInt8) : Prop :=
 let q0 := List.length y;
 let q1 := ((plainF y : Nat) : Int);
 (
  ∃ z : Nat,
  Rfs [y] (
  ((0 : Int) = ((z : Nat) : Int)) ∧
  (Iv (((z : Nat) ≤ q0) ∧ (plainF y) = ((z : Nat) + (plainF (List.drop z y))))))) ∧
 (
  ∀ x : Nat,
 let q2 := sat y ((x : Nat) : Int);
 let q3 := ilt ((x : Nat) : Int) (slen y);
 let q4 := ile (33 : Int) q2;
 let q5 := ile q2 (126 : Int);
 let q6 : Prop := (
 (((x : Nat) : Int) = q1) ∧
 True);
 let q7 := Bool.not (ieq q2 (34 : Int));
  (Iv (((x : Nat) ≤ q0) ∧ (plainF y) = ((x : Nat) + (plainF (List.drop x y))))) →
  Bth q3 (
  ((ile (0 : Int) ((x : Nat) : Int)) = true) ∧
  (q3 = true) ∧
  Bth q4 (
  ((ile (0 : Int) ((x : Nat) : Int)) = true) ∧
  (q3 = true) ∧
  Bth q5 (
  ((ile (0 : Int) ((x : Nat) : Int)) = true) ∧
  (q3 = true) ∧
  Bth q7 (
  ∃ z : Nat,
  Rfs [y] (
  ((iadd .i64 ((x : Nat) : Int) (1 : Int)) = ((z : Nat) : Int)) ∧
  (Iv ((((z : Nat) ≤ q0) ∧ (plainF y) = ((z : Nat) + (plainF (List.drop z y)))) ∧ ((q0 : Nat) - z : Nat) < ((q0 : Nat) - x))))) (
  q6)) (
  q6)) (
  q6)) (
  q6))
theorem plaV_eq : ∀ y, plaVC y = plaV y := fun y => by kernel_rfl
def worVC (y : List UInt8) : Prop :=
 let q0 : Prop := (
 (([] : List (Prod (List UInt8) Bool)) = (wordsF y)) ∧
 (false = (wordsE y)) ∧
 True);
 (
  ∃ z : Prod (List UInt8) (List (Prod (List UInt8) Bool)),
  (y = z.1) ∧
  (([] : List (Prod (List UInt8) Bool)) = z.2) ∧
  (Iv ((((List.length z.1 : Nat) + (List.length z.2) : Nat) ≤ (List.length y)) ∧ (wordsM y) = (Option.map (fun (z1 : List (Prod (List UInt8) Bool)) => (z.2 : List Wd) ++ z1) (wG z.1))))) ∧
 (
  ∀ x : Prod (List UInt8) (List (Prod (List UInt8) Bool)),
 let q1 := List.length y;
 let q2 := quotF x.1;
 let q3 := List.length x.1;
 let q4 := ((plainF x.1 : Nat) : Int);
 let q5 := ((q2.2 : Nat) : Int);
 let q6 := ilt (0 : Int) q4;
 let q7 := ieq q4 (0 : Int);
 let q8 := preF x.1 ((34 : UInt8) :: ([] : List UInt8));
 let q9 := ldrop x.1 q4;
 let q10 := ieq (sat x.1 (0 : Int)) (34 : Int);
 let q11 := ieq q5 (0 : Int);
 let q12 := ldrop x.1 q5;
 let q13 := seq q9 ([] : List UInt8);
 let q14 := seq q12 ([] : List UInt8);
 let q15 := Bool.not (ieq (sat q9 (0 : Int)) (32 : Int));
 let q16 := Bool.not (ieq (sat q12 (0 : Int)) (32 : Int));
 let q17 := lcat x.2 ((([] : List UInt8), q10) :: ([] : List (Prod (List UInt8) Bool)));
 let q18 := lcat x.2 ((q2.1, q10) :: ([] : List (Prod (List UInt8) Bool)));
 let q19 := lcat x.2 ((ltake x.1 q4, q10) :: ([] : List (Prod (List UInt8) Bool)));
  (Iv ((((q3 : Nat) + (List.length x.2) : Nat) ≤ q1) ∧ (wordsM y) = (Option.map (fun (z : List (Prod (List UInt8) Bool)) => (x.2 : List Wd) ++ z) (wG x.1)))) →
  (Iv True) ∧
  Rfs [x.1, ((34 : UInt8) :: ([] : List UInt8))] (
  Bth q8 (
  (Iv (((1 : Nat) ≤ q3) ∧ (q3 : Nat) ≤ 2000)) ∧
  Rfs [x.1] (
  Bth q11 (
  q0) (
  Tt 1 (
  ((ilt (0 : Int) (slen x.1)) = true) ∧
  ((fits (llen q18) 24) = true) ∧
  ((ile (0 : Int) q5) = true) ∧
  ((ile q5 (llen x.1)) = true) ∧
  Bth q14 (
  (q18 = (wordsF y)) ∧
  (true = (wordsE y)) ∧
  True) (
  Tt 1 (
  ((ilt (0 : Int) (slen q12)) = true) ∧
  Bth q16 (
  q0) (
  Tt 1 (
  ((ile (1 : Int) (llen q12)) = true) ∧
  ∃ z : Prod (List UInt8) (List (Prod (List UInt8) Bool)),
 let q20 := List.length z.1;
  ((ldrop q12 (1 : Int)) = z.1) ∧
  (q18 = z.2) ∧
  (Iv (((((q20 : Nat) + (List.length z.2) : Nat) ≤ q1) ∧ (wordsM y) = (Option.map (fun (z1 : List (Prod (List UInt8) Bool)) => (z.2 : List Wd) ++ z1) (wG z.1))) ∧ (q20 : Nat) < q3)))))))))) (
  (Iv ((q3 : Nat) ≤ 2000)) ∧
  Rfs [x.1] (
  Bth q6 (
  ((ile (0 : Int) q4) = true) ∧
  ((ile q4 (llen x.1)) = true) ∧
  Bth q7 (
  q0) (
  Tt 1 (
  ((ilt (0 : Int) (slen x.1)) = true) ∧
  ((fits (llen q19) 24) = true) ∧
  ((ile (0 : Int) q4) = true) ∧
  ((ile q4 (llen x.1)) = true) ∧
  Bth q13 (
  (q19 = (wordsF y)) ∧
  (true = (wordsE y)) ∧
  True) (
  Tt 1 (
  ((ilt (0 : Int) (slen q9)) = true) ∧
  Bth q15 (
  q0) (
  Tt 1 (
  ((ile (1 : Int) (llen q9)) = true) ∧
  ∃ z : Prod (List UInt8) (List (Prod (List UInt8) Bool)),
 let q21 := List.length z.1;
  ((ldrop q9 (1 : Int)) = z.1) ∧
  (q19 = z.2) ∧
  (Iv (((((q21 : Nat) + (List.length z.2) : Nat) ≤ q1) ∧ (wordsM y) = (Option.map (fun (z1 : List (Prod (List UInt8) Bool)) => (z.2 : List Wd) ++ z1) (wG z.1))) ∧ (q21 : Nat) < q3))))))))) (
  Bth q7 (
  q0) (
  Tt 1 (
  ((ilt (0 : Int) (slen x.1)) = true) ∧
  ((fits (llen q17) 24) = true) ∧
  ((ile (0 : Int) q4) = true) ∧
  ((ile q4 (llen x.1)) = true) ∧
  Bth q13 (
  (q17 = (wordsF y)) ∧
  (true = (wordsE y)) ∧
  True) (
  Tt 1 (
  ((ilt (0 : Int) (slen q9)) = true) ∧
  Bth q15 (
  q0) (
  Tt 1 (
  ((ile (1 : Int) (llen q9)) = true) ∧
  ∃ z : Prod (List UInt8) (List (Prod (List UInt8) Bool)),
 let q22 := List.length z.1;
  ((ldrop q9 (1 : Int)) = z.1) ∧
  (q17 = z.2) ∧
  (Iv (((((q22 : Nat) + (List.length z.2) : Nat) ≤ q1) ∧ (wordsM y) = (Option.map (fun (z1 : List (Prod (List UInt8) Bool)) => (z.2 : List Wd) ++ z1) (wG z.1))) ∧ (q22 : Nat) < q3)))))))))))))
theorem worV_eq : ∀ y, worVC y = worV y := fun y => by kernel_rfl
def numVC (y : Prod (List UInt8) Bool) : Prop :=
 let q0 := atoiN y.1;
 let q1 := atoiE y.1;
 let q2 := Bool.not y.2;
 let q3 := ile q0 (4611686018427387904 : Int);
 let q4 := ile (0 : Int) q0;
 let q5 : Prop := (
 Rfs [q0] (
  (false = (numW y)) ∧
  True));
 Bth q1 (
  (Iv (((List.length y.1 : Nat) ≤ 2000) ∧ true = q1)) ∧
  Rfs [y.1] (
  ((inR .i64 q0) = true) →
  Bth q2 (
  Bth q4 (
  Bth q3 (
  (Iv ((inR .i64 q0) = true)) ∧
  Rfs [q0] (
  Rfs [y.2] (
  Rfs [y.1, y.1] (
  Rfs [q0] (
  ((seq (Lib.itoa q0) y.1) = (numW y)) ∧
  True))))) (
  Rfs [y.2] (
  q5))) (
  Rfs [y.2] (
  q5))) (
  Rfs [y.2] (
  q5)))) (
  (Iv (((List.length y.1 : Nat) ≤ 2000) ∧ false = q1)) ∧
  Rfs [y.1] (
  ((inR .i64 q0) = true) →
  q5))
theorem numV_eq : ∀ y, numVC y = numV y := fun y => by kernel_rfl
end Go.Proofs.YtjdehneddakpnaaGreatDoor.sx
namespace Go.Proofs.YtjdehneddakpnaaGreatDoor.sx
open Go Go.RowKit
noncomputable section
def areC : Con D := con0 34 (List Wd × By) inWS (fun y => shortW y.1) (fun y => [.list 1 y.1, .str y.2]) fun y => .bool (areF y.1 y.2)
def areO (y : areC.Y) : Orc D := ⟨[(0, .fact 0)], [], [(58, { X := Nat, keep := [1, 14, 15], sl := fun x => [(16, .int .i64 x)], kp := [], pc := fun _ => [], nx := 0, inv := fun x => x ≤ y.1.length ∧ y.2.length = y.1.length ∧ areF y.1 y.2 = areF (y.1.drop x) (y.2.drop x), me := fun x => y.1.length - x })], [], 1, []⟩
def areV (y : areC.Y) : Prop := vc [numC] Tryz.f34 areC areO y
def setC : Con D := con0 36 (List Wd) inWs (fun y => shortW y ∧ y.length ≤ 10000) (fun y => [.list 1 y]) fun y => .tuple [.agg [.list 2 (setF y).1, .str (setF y).2.1], .bool (setF y).2.2]
def setO (y : setC.Y) : Orc D := ⟨[], [], [(122, { X := Nat × List Pat, keep := [0, 2], sl := fun x => [(4, .ptr 1 0), (5, .int .i64 x.1)], kp := [0], pc := fun x => [(1, .cells [.grow 2 x.2 2, .str []] 25 false), (2, .tok 2 69)], nx := 3, inv := fun x => x.1 ≤ y.length ∧ x.1 % 2 = 0 ∧ x.2.length ≤ x.1 ∧ setGo [] y = setGo x.2 (y.drop x.1), me := fun x => y.length - x.1 })], [], 1, []⟩
def setV (y : setC.Y) : Prop := vc [areC] Tryz.f36 setC setO y
/-- a step's cells -/
def svL (s : Sv) : List (AV D.E) := [.int .i64 s.kind, .int .i64 s.n, .str s.name, .str s.to, .list 0 s.data, .list 2 s.rules, .str s.cont]
def stepE (l : List Wd) : Bool := !(wd l 0).2 && (stepF l).isSome
def stepV0 (l : List Wd) : Sv := if (wd l 0).2 = true then sv0 else if w0 l = kLoad then { sv0 with kind := 7, rules := (setF (l.drop 1)).1, cont := (setF (l.drop 1)).2.1 } else (stepF l).getD sv0
def stepC : Con D := con0 20 (List Wd) inWs (fun y => shortW y ∧ y.length ≤ 10000 ∧ 1 ≤ y.length) (fun y => [.list 1 y]) fun y => .tuple [.agg (svL (stepV0 y)), .bool (stepE y)]
def stepV (y : stepC.Y) : Prop := vc [areC, numC, setC] Tryz.f20 stepC noO y
def parC : Con D := con0 8 By (fun a _ => inS a) (fun _ => True) (fun y => [.str y]) fun y => .tuple [.agg (svL (parseF y)), .int .i64 (parseN y)]
def parV (y : parC.Y) : Prop := vc [worC, stepC] Tryz.f8 parC noO y
end
end Go.Proofs.YtjdehneddakpnaaGreatDoor.sx
namespace Go.Proofs.YtjdehneddakpnaaGreatDoor.sx
open Go Go.RowKit
def areVC (y : Prod (List (Prod (List UInt8) Bool)) (List UInt8)) : Prop :=
 let q0 := List.length y.1;
 let q1 := areF y.1 y.2;
 let q2 := Bool.not (ieq (llen y.1) (slen y.2));
 ((ile (llen y.1) (9223372036854775807 : Int)) = true) →
  Bth q2 (
  (false = q1) ∧
  True) (
  (
  ∃ z : Nat,
  Rfs [y.2] (
  Rfs [y.1] (
  Rfs [llen y.1] (
  ((0 : Int) = ((z : Nat) : Int)) ∧
  (Iv (((z : Nat) ≤ q0) ∧ ((List.length y.2) = q0) ∧ q1 = (areF (List.drop z y.1) (List.drop z y.2)))))))) ∧
  (
  ∀ x : Nat,
 let q3 := sat y.2 ((x : Nat) : Int);
 let q4 := ilt ((x : Nat) : Int) (llen y.1);
 let q5 := ieq q3 (110 : Int);
 let q6 := gt (([] : List UInt8), false) y.1 (Int.toNat ((x : Nat) : Int));
 let q7 := Bool.not (beq2 (ieq q3 (113 : Int)) q6.2);
 let q8 := Bool.not (numW (q6.1, q6.2));
 let q9 : Prop := (
 ∃ z : Nat,
  Rfs [y.2] (
  Rfs [y.1] (
  Rfs [llen y.1] (
  ((iadd .i64 ((x : Nat) : Int) (1 : Int)) = ((z : Nat) : Int)) ∧
  (Iv ((((z : Nat) ≤ q0) ∧ ((List.length y.2) = q0) ∧ q1 = (areF (List.drop z y.1) (List.drop z y.2))) ∧ ((q0 : Nat) - z : Nat) < ((q0 : Nat) - x)))))));
  (Iv (((x : Nat) ≤ q0) ∧ ((List.length y.2) = q0) ∧ q1 = (areF (List.drop x y.1) (List.drop x y.2)))) →
  Bth q4 (
  ((ile (0 : Int) ((x : Nat) : Int)) = true) ∧
  (q4 = true) ∧
  (Iv ((List.length q6.1 : Nat) ≤ 2000)) ∧
  Rfs [q6.1] (
  Rfs [q6.2] (
  ((ile (0 : Int) ((x : Nat) : Int)) = true) ∧
  ((ilt ((x : Nat) : Int) (slen y.2)) = true) ∧
  Bth q7 (
  Rfs [q6.2] (
  (false = q1) ∧
  True)) (
  ((ile (0 : Int) ((x : Nat) : Int)) = true) ∧
  ((ilt ((x : Nat) : Int) (slen y.2)) = true) ∧
  Bth q5 (
  Rfs [q6.2] (
  Bth q8 (
  (false = q1) ∧
  True) (
  q9))) (
  Rfs [q6.2] (
  q9)))))) (
  (true = q1) ∧
  True)))
theorem areV_eq : ∀ y, areVC y = areV y := fun y => by kernel_rfl
def setVC (y : List (Prod (List UInt8) Bool)) : Prop :=
 let q0 := List.length y;
 let q1 := (setF y).1;
 let q2 := (setF y).2;
 let q3 := Bool.not (ieq (irem (llen y) (2 : Int)) (0 : Int));
 let q4 : Prop := (
 (([] : List UInt8) = q2.1) ∧
 (false = q2.2) ∧
 True);
 Tt 1 (
  Bth q3 (
  (([] : List (Prod (List UInt8) (List UInt8))) = q1) ∧
  q4) (
  (
  ∃ z : Prod Nat (List (Prod (List UInt8) (List UInt8))),
  Rfs [y] (
  ((0 : Int) = ((z.1 : Nat) : Int)) ∧
  (([] : List (Prod (List UInt8) (List UInt8))) = z.2) ∧
  Rfs [([] : List UInt8), ([] : List UInt8)] (
  (Iv (((z.1 : Nat) ≤ q0) ∧ (((z.1 : Nat) % 2) = 0) ∧ ((List.length z.2 : Nat) ≤ z.1) ∧ (setGo ([] : List (Prod (List UInt8) (List UInt8))) y) = (setGo z.2 (List.drop z.1 y))))))) ∧
  (
  ∀ x : Prod Nat (List (Prod (List UInt8) (List UInt8))),
 let q5 := ((x.1 : Nat) : Int);
 let q6 := setGo ([] : List (Prod (List UInt8) (List UInt8))) y;
 let q7 := iadd .i64 q5 (1 : Int);
 let q8 := ilt q5 (llen y);
 let q9 := iadd .i64 q5 (2 : Int);
 let q10 := ltake y q9;
 let q11 := ieq q9 (llen y);
 let q12 := (gt (([] : List UInt8), false) y (Int.toNat q5)).1;
 let q13 := (gt (([] : List UInt8), false) y (Int.toNat q7)).1;
 let q14 := ldrop q10 q5;
 let q15 := Bool.not (areF q14 ((112 : UInt8) :: ((113 : UInt8) :: ([] : List UInt8))));
 let q16 := seq q12 ((99 : UInt8) :: ((111 : UInt8) :: ((110 : UInt8) :: ((116 : UInt8) :: ([] : List UInt8)))));
 let q17 := lcat x.2 ((q12, q13) :: ([] : List (Prod (List UInt8) (List UInt8))));
 let q18 : Prop := (
 ((ile (0 : Int) q5) = true) ∧
 (q8 = true) ∧
 ((ile (0 : Int) q7) = true) ∧
 ((ilt q7 (llen y)) = true) ∧
 ((fits (llen q17) 32) = true) ∧
 Rfs [x.2] (
  Rfs [q12, q13] (
  ∃ z : Prod Nat (List (Prod (List UInt8) (List UInt8))),
  Rfs [y] (
  (q9 = ((z.1 : Nat) : Int)) ∧
  (q17 = z.2) ∧
  Rfs [([] : List UInt8), ([] : List UInt8)] (
  (Iv ((((z.1 : Nat) ≤ q0) ∧ (((z.1 : Nat) % 2) = 0) ∧ ((List.length z.2 : Nat) ≤ z.1) ∧ q6 = (setGo z.2 (List.drop z.1 y))) ∧ ((q0 : Nat) - z.1 : Nat) < ((q0 : Nat) - x.1))))))));
  (Iv (((x.1 : Nat) ≤ q0) ∧ (((x.1 : Nat) % 2) = 0) ∧ ((List.length x.2 : Nat) ≤ x.1) ∧ q6 = (setGo x.2 (List.drop x.1 y)))) →
  Bth q8 (
  ((ile (0 : Int) q9) = true) ∧
  ((ile q9 (llen y)) = true) ∧
  ((ile (0 : Int) q5) = true) ∧
  ((ile q5 (llen q10)) = true) ∧
  (Iv (shortW q14)) ∧
  Rfs [q14] (
  Rfs [((112 : UInt8) :: ((113 : UInt8) :: ([] : List UInt8)))] (
  Bth q15 (
  (x.2 = q1) ∧
  q4) (
  Bth q11 (
  ((ile (0 : Int) q5) = true) ∧
  (q8 = true) ∧
  Bth q16 (
  ((ile (0 : Int) q7) = true) ∧
  ((ilt q7 (llen y)) = true) ∧
  Rfs [x.2] (
  Rfs [q13, q13, q13] (
  (x.2 = q1) ∧
  (q13 = q2.1) ∧
  ((Bool.not (seq q13 ([] : List UInt8))) = q2.2) ∧
  True))) (
  q18)) (
  q18))))) (
  (x.2 = q1) ∧
  (([] : List UInt8) = q2.1) ∧
  (true = q2.2) ∧
  True))))
theorem setV_eq : ∀ y, setVC y = setV y := fun y => by kernel_rfl
def stepVC (y : List (Prod (List UInt8) Bool)) : Prop :=
 let q0 := ldrop y (1 : Int);
 let q1 := gt (([] : List UInt8), false) y 0;
 let q2 := areF q0 ([] : List UInt8);
 let q3 := (setF q0).2;
 let q4 := areF q0 ((110 : UInt8) :: ([] : List UInt8));
 let q5 := areF q0 ((112 : UInt8) :: ([] : List UInt8));
 let q6 := gt (([] : List UInt8), false) q0 0;
 let q7 := gt (([] : List UInt8), false) q0 1;
 let q8 := areF q0 ((112 : UInt8) :: ((110 : UInt8) :: ([] : List UInt8)));
 let q9 := areF q0 ((112 : UInt8) :: ((113 : UInt8) :: ([] : List UInt8)));
 let q10 := areF q0 ((112 : UInt8) :: ((112 : UInt8) :: ([] : List UInt8)));
 let q11 : Prop := (
 (([] : List (Prod (List UInt8) (List UInt8))) = (Sv.rules (stepV0 y))) ∧
 (([] : List UInt8) = (Sv.cont (stepV0 y))) ∧
 (true = (stepE y)) ∧
 True);
 let q12 := seq q1.1 ((99 : UInt8) :: ((117 : UInt8) :: ((116 : UInt8) :: ([] : List UInt8))));
 let q13 : Prop := (
 (([] : List UInt8) = (Sv.data (stepV0 y))) ∧
 q11);
 let q14 := seq q1.1 ((112 : UInt8) :: ((111 : UInt8) :: ((108 : UInt8) :: ((108 : UInt8) :: ([] : List UInt8)))));
 let q15 := seq q1.1 ((111 : UInt8) :: ((112 : UInt8) :: ((101 : UInt8) :: ((110 : UInt8) :: ([] : List UInt8)))));
 let q16 := seq q1.1 ((108 : UInt8) :: ((111 : UInt8) :: ((97 : UInt8) :: ((100 : UInt8) :: ([] : List UInt8)))));
 let q17 : Prop := (
 (([] : List UInt8) = (Sv.to (stepV0 y))) ∧
 q13);
 let q18 := seq q1.1 ((113 : UInt8) :: ((117 : UInt8) :: ((101 : UInt8) :: ((114 : UInt8) :: ((121 : UInt8) :: ([] : List UInt8))))));
 let q19 := seq q1.1 ((99 : UInt8) :: ((114 : UInt8) :: ((97 : UInt8) :: ((115 : UInt8) :: ((104 : UInt8) :: ([] : List UInt8))))));
 let q20 : Prop := (
 (([] : List UInt8) = (Sv.name (stepV0 y))) ∧
 q17);
 let q21 := seq q1.1 ((97 : UInt8) :: ((112 : UInt8) :: ((112 : UInt8) :: ((101 : UInt8) :: ((110 : UInt8) :: ((100 : UInt8) :: ([] : List UInt8)))))));
 let q22 := seq q1.1 ((114 : UInt8) :: ((101 : UInt8) :: ((110 : UInt8) :: ((97 : UInt8) :: ((109 : UInt8) :: ((101 : UInt8) :: ([] : List UInt8)))))));
 let q23 := seq q1.1 ((114 : UInt8) :: ((101 : UInt8) :: ((109 : UInt8) :: ((111 : UInt8) :: ((118 : UInt8) :: ((101 : UInt8) :: ([] : List UInt8)))))));
 let q24 := seq q1.1 ((99 : UInt8) :: ((114 : UInt8) :: ((101 : UInt8) :: ((97 : UInt8) :: ((116 : UInt8) :: ((101 : UInt8) :: ([] : List UInt8)))))));
 let q25 : Prop := (
 ((0 : Int) = (Sv.n (stepV0 y))) ∧
 q20);
 let q26 : Prop := (
 ((0 : Int) = (Sv.kind (stepV0 y))) ∧
 ((0 : Int) = (Sv.n (stepV0 y))) ∧
 (([] : List UInt8) = (Sv.name (stepV0 y))) ∧
 (([] : List UInt8) = (Sv.to (stepV0 y))) ∧
 (([] : List UInt8) = (Sv.data (stepV0 y))) ∧
 (([] : List (Prod (List UInt8) (List UInt8))) = (Sv.rules (stepV0 y))) ∧
 (([] : List UInt8) = (Sv.cont (stepV0 y))) ∧
 (false = (stepE y)) ∧
 True);
 let q27 : Prop := (
 (q6.1 = (Sv.name (stepV0 y))) ∧
 q17);
 let q28 : Prop := (
 ((atoiN q6.1) = (Sv.n (stepV0 y))) ∧
 q20);
 let q29 : Prop := (
 ((0 : Int) = (Sv.n (stepV0 y))) ∧
 q27);
 let q30 : Prop := (
 Bth q16 (
  (Iv ((shortW q0) ∧ (List.length q0 : Nat) ≤ 10000)) ∧
  Rfs [q0] (
  ((7 : Int) = (Sv.kind (stepV0 y))) ∧
  ((0 : Int) = (Sv.n (stepV0 y))) ∧
  (([] : List UInt8) = (Sv.name (stepV0 y))) ∧
  (([] : List UInt8) = (Sv.to (stepV0 y))) ∧
  (([] : List UInt8) = (Sv.data (stepV0 y))) ∧
  ((setF q0).1 = (Sv.rules (stepV0 y))) ∧
  (q3.1 = (Sv.cont (stepV0 y))) ∧
  (q3.2 = (stepE y)) ∧
  True)) (
  q26));
 let q31 : Prop := (
 (Iv (shortW q0)) ∧
 Rfs [q0] (
  Rfs [([] : List UInt8)] (
  Bth q2 (
  Tt 1 (
  ((ilt (0 : Int) (llen y)) = true) ∧
  Bth q15 (
  ((10 : Int) = (Sv.kind (stepV0 y))) ∧
  q25) (
  ((6 : Int) = (Sv.kind (stepV0 y))) ∧
  q25))) (
  q26))));
 let q32 : Prop := (
 (Iv (shortW q0)) ∧
 Rfs [q0] (
  Rfs [((112 : UInt8) :: ([] : List UInt8))] (
  Bth q5 (
  Tt 1 (
  ((ilt (0 : Int) (llen y)) = true) ∧
  Bth q23 (
  Tt 1 (
  ((ilt (0 : Int) (llen q0)) = true) ∧
  ((5 : Int) = (Sv.kind (stepV0 y))) ∧
  q29)) (
  Tt 1 (
  ((ilt (0 : Int) (llen q0)) = true) ∧
  ((1 : Int) = (Sv.kind (stepV0 y))) ∧
  q29)))) (
  q26))));
 let q33 : Prop := (
 (Iv (shortW q0)) ∧
 Rfs [q0] (
  Rfs [((110 : UInt8) :: ([] : List UInt8))] (
  Bth q4 (
  Tt 1 (
  ((ilt (0 : Int) (llen y)) = true) ∧
  Bth q19 (
  Tt 1 (
  ((ilt (0 : Int) (llen q0)) = true) ∧
  (Iv ((List.length q6.1 : Nat) ≤ 2000)) ∧
  Rfs [q6.1] (
  Rfs [q6.2] (
  ((9 : Int) = (Sv.kind (stepV0 y))) ∧
  q28)))) (
  Tt 1 (
  ((ilt (0 : Int) (llen q0)) = true) ∧
  (Iv ((List.length q6.1 : Nat) ≤ 2000)) ∧
  Rfs [q6.1] (
  Rfs [q6.2] (
  ((8 : Int) = (Sv.kind (stepV0 y))) ∧
  q28)))))) (
  q26))));
 let q34 : Prop := (
 Bth q18 (
  Bth q18 (
  q33) (
  q30)) (
  Bth q19 (
  q33) (
  q30)));
 let q35 : Prop := (
 Bth q21 (
  (Iv (shortW q0)) ∧
  Rfs [q0] (
  Rfs [((112 : UInt8) :: ((113 : UInt8) :: ([] : List UInt8)))] (
  Bth q9 (
  Tt 1 (
  ((ilt (0 : Int) (llen q0)) = true) ∧
  Tt 1 (
  ((ilt (1 : Int) (llen q0)) = true) ∧
  Rfs [q6.1, q7.1] (
  ((2 : Int) = (Sv.kind (stepV0 y))) ∧
  ((0 : Int) = (Sv.n (stepV0 y))) ∧
  (q6.1 = (Sv.name (stepV0 y))) ∧
  (([] : List UInt8) = (Sv.to (stepV0 y))) ∧
  (q7.1 = (Sv.data (stepV0 y))) ∧
  q11)))) (
  q26)))) (
  Bth q22 (
  (Iv (shortW q0)) ∧
  Rfs [q0] (
  Rfs [((112 : UInt8) :: ((112 : UInt8) :: ([] : List UInt8)))] (
  Bth q10 (
  Tt 1 (
  ((ilt (0 : Int) (llen q0)) = true) ∧
  Tt 1 (
  ((ilt (1 : Int) (llen q0)) = true) ∧
  Rfs [q6.1, q7.1] (
  ((3 : Int) = (Sv.kind (stepV0 y))) ∧
  ((0 : Int) = (Sv.n (stepV0 y))) ∧
  (q6.1 = (Sv.name (stepV0 y))) ∧
  (q7.1 = (Sv.to (stepV0 y))) ∧
  q13)))) (
  q26)))) (
  Bth q12 (
  (Iv (shortW q0)) ∧
  Rfs [q0] (
  Rfs [((112 : UInt8) :: ((110 : UInt8) :: ([] : List UInt8)))] (
  Bth q8 (
  Tt 1 (
  ((ilt (1 : Int) (llen q0)) = true) ∧
  (Iv ((List.length q7.1 : Nat) ≤ 2000)) ∧
  Rfs [q7.1] (
  Rfs [q7.2] (
  Tt 1 (
  ((ilt (0 : Int) (llen q0)) = true) ∧
  ((4 : Int) = (Sv.kind (stepV0 y))) ∧
  ((atoiN q7.1) = (Sv.n (stepV0 y))) ∧
  q27))))) (
  q26)))) (
  Bth q14 (
  Bth q14 (
  q31) (
  q34)) (
  Bth q15 (
  q31) (
  q34))))));
 Tt 1 (
  ((ilt (0 : Int) (llen y)) = true) ∧
  Bth q1.2 (
  q26) (
  Tt 1 (
  ((ile (1 : Int) (llen y)) = true) ∧
  Tt 1 (
  ((ilt (0 : Int) (llen y)) = true) ∧
  Bth q24 (
  Bth q24 (
  q32) (
  q35)) (
  Bth q23 (
  q32) (
  q35))))))
theorem stepV_eq : ∀ y, stepVC y = stepV y := fun y => by kernel_rfl
def parVC (y : List UInt8) : Prop :=
 let q0 := stepE (wordsF y);
 let q1 := stepV0 (wordsF y);
 let q2 := List.length (wordsF y);
 let q3 := ilt (2000 : Int) (slen y);
 let q4 : Prop := (
 ((0 : Int) = (Sv.kind (parseF y))) ∧
 ((0 : Int) = (Sv.n (parseF y))) ∧
 (([] : List UInt8) = (Sv.name (parseF y))) ∧
 (([] : List UInt8) = (Sv.to (parseF y))) ∧
 (([] : List UInt8) = (Sv.data (parseF y))) ∧
 (([] : List (Prod (List UInt8) (List UInt8))) = (Sv.rules (parseF y))) ∧
 (([] : List UInt8) = (Sv.cont (parseF y))) ∧
 ((4 : Int) = (parseN y)) ∧
 True);
 Bth q3 (
  ((0 : Int) = (Sv.kind (parseF y))) ∧
  ((0 : Int) = (Sv.n (parseF y))) ∧
  (([] : List UInt8) = (Sv.name (parseF y))) ∧
  (([] : List UInt8) = (Sv.to (parseF y))) ∧
  (([] : List UInt8) = (Sv.data (parseF y))) ∧
  (([] : List (Prod (List UInt8) (List UInt8))) = (Sv.rules (parseF y))) ∧
  (([] : List UInt8) = (Sv.cont (parseF y))) ∧
  ((2 : Int) = (parseN y)) ∧
  True) (
  (Iv ((List.length y : Nat) ≤ 2000)) ∧
  Rfs [y] (
  Bth (wordsE y) (
  (Iv ((shortW (wordsF y)) ∧ ((q2 : Nat) ≤ 10000) ∧ (1 : Nat) ≤ q2)) ∧
  Rfs [wordsF y] (
  Bth q0 (
  ((Sv.kind q1) = (Sv.kind (parseF y))) ∧
  ((Sv.n q1) = (Sv.n (parseF y))) ∧
  ((Sv.name q1) = (Sv.name (parseF y))) ∧
  ((Sv.to q1) = (Sv.to (parseF y))) ∧
  ((Sv.data q1) = (Sv.data (parseF y))) ∧
  ((Sv.rules q1) = (Sv.rules (parseF y))) ∧
  ((Sv.cont q1) = (Sv.cont (parseF y))) ∧
  ((0 : Int) = (parseN y)) ∧
  True) (
  q4))) (
  q4)))
theorem parV_eq : ∀ y, parVC y = parV y := fun y => by kernel_rfl
end Go.Proofs.YtjdehneddakpnaaGreatDoor.sx
namespace Go.Proofs.YtjdehneddakpnaaGreatDoor.sx
open Go Go.RowKit
noncomputable section
def hexC : Con D := con0 51 Int (fun a _ => in1 a) isB (fun y => [.int .u8 y]) fun y => .int .i64 (hexF (b8 y))
def hexV (y : hexC.Y) : Prop := vc [] Tryz.f51 hexC noO y
/-- a quoted word at a place -/
def rqN (s : By) (a : Int) : Int := if (quotF (s.drop a.toNat)).2 = 0 then -1 else a + ((quotF (s.drop a.toNat)).2 : Nat)
def rquC : Con D := con0 37 (By × Int) (fun a _ => inSI a) (fun y => 0 ≤ y.2 ∧ y.2 < y.1.length ∧ y.1.length ≤ 2000) (fun y => [.str y.1, .int .i64 y.2]) fun y => .tuple [.str (quotF (y.1.drop y.2.toNat)).1, .int .i64 (rqN y.1 y.2)]
def rquI (y : By × Int) (i : Nat) (out : By) : Prop := y.2 + 1 ≤ i ∧ i ≤ y.1.length ∧ out.length < i ∧ qG (y.1.drop (y.2.toNat + 1)) = (qG (y.1.drop i)).map fun r => (out ++ r.1, r.2 + (i - (y.2.toNat + 1)))
def rquO (y : rquC.Y) : Orc D := ⟨[], [], [(60, { X := Nat × By, keep := [0], sl := fun x => [(6, .grow 0 x.2 0), (7, .int .i64 x.1)], kp := [], pc := fun _ => [(0, .tok 0 5)], nx := 1, inv := fun x => rquI y x.1 x.2, me := fun x => y.1.length - x.1 })], [], 1, []⟩
def rquV (y : rquC.Y) : Prop := vc [hexC] Tryz.f37 rquC rquO y
def rwoC : Con D := { worC with f := 21 }
def rwoI (y : By) (i : Nat) (out : List Wd) : Prop := i ≤ y.length ∧ out.length ≤ i ∧ wordsM y = (wG (y.drop i)).map (out ++ ·)
def rwoO (y : rwoC.Y) : Orc D := ⟨[], [], [(30, { X := Nat × List Wd, keep := [0], sl := fun x => [(4, .grow 1 x.2 0), (5, .int .i64 x.1)], kp := [], pc := fun _ => [(0, .tok 1 65)], nx := 1, inv := fun x => rwoI y x.1 x.2, me := fun x => y.length + 1 - x.1 })],
  [], 1, [(7708, ⟨Nat × List Wd, fun x => { X := Nat, keep := [0, 4, 8], sl := fun j => [(5, .int .i64 j)], kp := [0], pc := fun _ => [], nx := 1, inv := fun j => x.1 ≤ j ∧ j ≤ y.length ∧ plainF (y.drop x.1) = (j - x.1) + plainF (y.drop j), me := fun j => y.length - j }⟩)]⟩
def rwoV (y : rwoC.Y) : Prop := vc [rquC] Tryz.f21 rwoC rwoO y
def whoC : Con D := con0 52 By (fun a _ => inS a) (fun y => y.length ≤ 2000) (fun y => [.str y]) fun y => .tuple [.int .i64 (wholeN y), .bool (wholeE y)]
def okDg (y : By) : Prop := digsF y ≠ [] ∧ (digsF y).length ≤ 19 ∧ ((digsF y).head? = some 48 → belowF y = false ∧ (digsF y).length ≤ 1)
def whoO (y : whoC.Y) : Orc D := ⟨[], [], [(1018, { X := Nat, keep := [4, 5], sl := fun i => [(6, .int .u64 (valF 0 ((digsF y).take i) : Nat)), (7, .int .i64 i)], kp := [], pc := fun _ => [], nx := 0, inv := fun i => i ≤ (digsF y).length ∧ allDig ((digsF y).take i) = true, me := fun i => (digsF y).length - i })],
  [(15, { X := Unit, keep := [], sl := fun _ => [(4, .bool (belowF y)), (5, .str (digsF y))], kp := [], pc := fun _ => [], nx := 0, inv := fun _ => True, me := fun _ => 0 }), (31, { X := Unit, keep := [], sl := fun _ => [(4, .bool (belowF y)), (5, .str (digsF y))], kp := [], pc := fun _ => [], nx := 0, inv := fun _ => okDg y, me := fun _ => 0 })], 1, []⟩
def whoV (y : whoC.Y) : Prop := vc [] Tryz.f52 whoC whoO y
def rnuC : Con D := con0 38 Wd (fun a _ => inWd a) (fun y => y.1.length ≤ 2000) (fun y => [.agg [.str y.1, .bool y.2]]) fun y => .tuple [.int .i64 (wholeN y.1), .bool (numW y)]
def rnuV (y : rnuC.Y) : Prop := vc [whoC] Tryz.f38 rnuC noO y
end
end Go.Proofs.YtjdehneddakpnaaGreatDoor.sx
namespace Go.Proofs.YtjdehneddakpnaaGreatDoor.sx
open Go Go.RowKit
def hexVC (y : Int) : Prop :=
 let q0 := hexF (b8 y);
 let q1 := ile y (57 : Int);
 let q2 := ile y (102 : Int);
 let q3 := ile (48 : Int) y;
 let q4 := ile (97 : Int) y;
 let q5 : Prop := (
 ((Neg.neg (1 : Int)) = q0) ∧
 True);
 let q6 : Prop := (
 Bth q4 (
  Bth q2 (
  ((iadd .i64 (icv .i64 (isub .u8 y (97 : Int))) (10 : Int)) = q0) ∧
  True) (
  q5)) (
  q5));
 Bth q3 (
  Bth q1 (
  ((icv .i64 (isub .u8 y (48 : Int))) = q0) ∧
  True) (
  q6)) (
  q6)
theorem hexV_eq : ∀ y, hexVC y = hexV y := fun y => by kernel_rfl
def rquVC (y : Prod (List UInt8) Int) : Prop :=
 let q0 := List.length y.1;
 let q1 := rqN y.1 y.2;
 let q2 := (quotF (List.drop (Int.toNat y.2) y.1)).1;
 let q3 : Prop := (
 (([] : List UInt8) = q2) ∧
 ((Neg.neg (1 : Int)) = q1) ∧
 True);
 (
  ∃ z : Prod Nat (List UInt8),
  Rfs [y.1] (
  (([] : List UInt8) = z.2) ∧
  ((iadd .i64 y.2 (1 : Int)) = ((z.1 : Nat) : Int)) ∧
  (Iv (rquI y z.1 z.2)))) ∧
 (
  ∀ x : Prod Nat (List UInt8),
 let q4 := ((x.1 : Nat) : Int);
 let q5 := sat y.1 q4;
 let q6 := ilt q4 (slen y.1);
 let q7 := iadd .i64 q4 (1 : Int);
 let q8 := lcat x.2 ((b8 (13 : Int)) :: ([] : List UInt8));
 let q9 := lcat x.2 ((b8 (9 : Int)) :: ([] : List UInt8));
 let q10 := lcat x.2 ((b8 (10 : Int)) :: ([] : List UInt8));
 let q11 := ieq q5 (34 : Int);
 let q12 := ilt q5 (32 : Int);
 let q13 := ilt (126 : Int) q5;
 let q14 := Bool.not (ieq q5 (92 : Int));
 let q15 := sat y.1 q7;
 let q16 := ile (slen y.1) q7;
 let q17 := iadd .i64 q7 (1 : Int);
 let q18 := lcat x.2 ((b8 q5) :: ([] : List UInt8));
 let q19 := ieq q15 (116 : Int);
 let q20 := ieq q15 (114 : Int);
 let q21 := ieq q15 (120 : Int);
 let q22 := ieq q15 (34 : Int);
 let q23 := ieq q15 (110 : Int);
 let q24 := ieq q15 (92 : Int);
 let q25 := sat y.1 q17;
 let q26 := iadd .i64 q17 (1 : Int);
 let q27 := hexF (b8 q25);
 let q28 := iadd .i64 q17 (2 : Int);
 let q29 := lcat x.2 ((b8 q15) :: ([] : List UInt8));
 let q30 := sat y.1 q26;
 let q31 := ilt (slen y.1) q28;
 let q32 := ilt q27 (0 : Int);
 let q33 := hexF (b8 q30);
 let q34 := ilt q33 (0 : Int);
 let q35 := lcat x.2 ((b8 (icv .u8 (iadd .i64 (imul .i64 (16 : Int) q27) q33))) :: ([] : List UInt8));
 let q36 : Prop := (
 ((fits (llen q29) 1) = true) ∧
 ∃ z : Prod Nat (List UInt8),
  Rfs [y.1] (
  (q29 = z.2) ∧
  (q17 = ((z.1 : Nat) : Int)) ∧
  (Iv ((rquI y z.1 z.2) ∧ ((q0 : Nat) - z.1 : Nat) < ((q0 : Nat) - x.1)))));
 let q37 : Prop := (
 Bth q23 (
  ((fits (llen q10) 1) = true) ∧
  ∃ z : Prod Nat (List UInt8),
  Rfs [y.1] (
  (q10 = z.2) ∧
  (q17 = ((z.1 : Nat) : Int)) ∧
  (Iv ((rquI y z.1 z.2) ∧ ((q0 : Nat) - z.1 : Nat) < ((q0 : Nat) - x.1))))) (
  Bth q19 (
  ((fits (llen q9) 1) = true) ∧
  ∃ z : Prod Nat (List UInt8),
  Rfs [y.1] (
  (q9 = z.2) ∧
  (q17 = ((z.1 : Nat) : Int)) ∧
  (Iv ((rquI y z.1 z.2) ∧ ((q0 : Nat) - z.1 : Nat) < ((q0 : Nat) - x.1))))) (
  Bth q20 (
  ((fits (llen q8) 1) = true) ∧
  ∃ z : Prod Nat (List UInt8),
  Rfs [y.1] (
  (q8 = z.2) ∧
  (q17 = ((z.1 : Nat) : Int)) ∧
  (Iv ((rquI y z.1 z.2) ∧ ((q0 : Nat) - z.1 : Nat) < ((q0 : Nat) - x.1))))) (
  Bth q21 (
  Bth q31 (
  q3) (
  ((ile (0 : Int) q17) = true) ∧
  ((ilt q17 (slen y.1)) = true) ∧
  (Iv (isB q25)) ∧
  Rfs [q25] (
  Bth q32 (
  q3) (
  ((ile (0 : Int) q26) = true) ∧
  ((ilt q26 (slen y.1)) = true) ∧
  (Iv (isB q30)) ∧
  Rfs [q30] (
  Bth q34 (
  q3) (
  ((ile (0 : Int) q17) = true) ∧
  ((ilt q17 (slen y.1)) = true) ∧
  (Iv (isB q25)) ∧
  Rfs [q25] (
  ((ile (0 : Int) q26) = true) ∧
  ((ilt q26 (slen y.1)) = true) ∧
  (Iv (isB q30)) ∧
  Rfs [q30] (
  ((fits (llen q35) 1) = true) ∧
  ∃ z : Prod Nat (List UInt8),
  Rfs [y.1] (
  (q35 = z.2) ∧
  (q28 = ((z.1 : Nat) : Int)) ∧
  (Iv ((rquI y z.1 z.2) ∧ ((q0 : Nat) - z.1 : Nat) < ((q0 : Nat) - x.1)))))))))))) (
  q3)))));
  (Iv (rquI y x.1 x.2)) →
  Bth q6 (
  ((ile (0 : Int) q4) = true) ∧
  (q6 = true) ∧
  Bth q11 (
  (x.2 = q2) ∧
  (q7 = q1) ∧
  True) (
  Bth q12 (
  q3) (
  Bth q13 (
  q3) (
  Bth q14 (
  ((fits (llen q18) 1) = true) ∧
  ∃ z : Prod Nat (List UInt8),
  Rfs [y.1] (
  (q18 = z.2) ∧
  (q7 = ((z.1 : Nat) : Int)) ∧
  (Iv ((rquI y z.1 z.2) ∧ ((q0 : Nat) - z.1 : Nat) < ((q0 : Nat) - x.1))))) (
  Bth q16 (
  q3) (
  ((ile (0 : Int) q7) = true) ∧
  ((ilt q7 (slen y.1)) = true) ∧
  Bth q22 (
  Bth q22 (
  q36) (
  q37)) (
  Bth q24 (
  q36) (
  q37)))))))) (
  q3))
theorem rquV_eq : ∀ y, rquVC y = rquV y := fun y => by kernel_rfl
def rwoVC (y : List UInt8) : Prop :=
 let q0 := List.length y;
 let q1 : Prop := (
 (([] : List (Prod (List UInt8) Bool)) = (wordsF y)) ∧
 (false = (wordsE y)) ∧
 True);
 (
  ∃ z : Prod Nat (List (Prod (List UInt8) Bool)),
  Rfs [y] (
  (([] : List (Prod (List UInt8) Bool)) = z.2) ∧
  ((0 : Int) = ((z.1 : Nat) : Int)) ∧
  (Iv (rwoI y z.1 z.2)))) ∧
 (
  ∀ x : Prod Nat (List (Prod (List UInt8) Bool)),
 let q2 := ((x.1 : Nat) : Int);
 let q3 := ilt q2 (slen y);
 let q4 := ieq (rqN y q2) (slen y);
 let q5 := ilt (rqN y q2) (0 : Int);
 let q6 := ieq (sat y q2) (34 : Int);
 let q7 := Bool.not (ieq (sat y (rqN y q2)) (32 : Int));
 let q8 := lcat x.2 (((quotF (List.drop (Int.toNat q2) y)).1, true) :: ([] : List (Prod (List UInt8) Bool)));
 let q22 : Prop := (
 ∃ z : Prod Nat (List (Prod (List UInt8) Bool)),
  (
  ∃ z1 : Nat,
  Rfs [y] (
  Rfs [x.2] (
  Rfs [q2] (
  (q2 = ((z1 : Nat) : Int)) ∧
  (Iv (((z.1 : Nat) ≤ z1) ∧ ((z1 : Nat) ≤ q0) ∧ (plainF (List.drop z.1 y)) = (((z1 : Nat) - z.1 : Nat) + (plainF (List.drop z1 y))))))))) ∧
  (
  ∀ x1 : Nat,
 let q9 := sat y ((x1 : Nat) : Int);
 let q10 := ilt ((x1 : Nat) : Int) (slen y);
 let q11 := ieq ((x1 : Nat) : Int) (slen y);
 let q12 := ltake y ((x1 : Nat) : Int);
 let q13 := plainF (List.drop z.1 y);
 let q14 := iadd .i64 ((x1 : Nat) : Int) (1 : Int);
 let q15 := ile (33 : Int) q9;
 let q16 := ile q9 (126 : Int);
 let q17 := ieq ((x1 : Nat) : Int) q2;
 let q18 := Bool.not (ieq q9 (34 : Int));
 let q19 := Bool.not (ieq q9 (32 : Int));
 let q20 := lcat x.2 ((ldrop q12 q2, false) :: ([] : List (Prod (List UInt8) Bool)));
 let q21 : Prop := (
 Bth q17 (
  q1) (
  ((ile (0 : Int) ((x1 : Nat) : Int)) = true) ∧
  ((ile ((x1 : Nat) : Int) (llen y)) = true) ∧
  ((ile (0 : Int) q2) = true) ∧
  ((ile q2 (llen q12)) = true) ∧
  ((fits (llen q20) 24) = true) ∧
  Bth q11 (
  (q20 = (wordsF y)) ∧
  (true = (wordsE y)) ∧
  True) (
  ((ile (0 : Int) ((x1 : Nat) : Int)) = true) ∧
  (q10 = true) ∧
  Bth q19 (
  q1) (
  ∃ z1 : Prod Nat (List (Prod (List UInt8) Bool)),
  Rfs [y] (
  (q20 = z1.2) ∧
  (q14 = ((z1.1 : Nat) : Int)) ∧
  (Iv ((rwoI y z1.1 z1.2) ∧ (((q0 : Nat) + 1 : Nat) - z1.1 : Nat) < (((q0 : Nat) + 1 : Nat) - x.1))))))));
  (Iv (((z.1 : Nat) ≤ x1) ∧ ((x1 : Nat) ≤ q0) ∧ q13 = (((x1 : Nat) - z.1 : Nat) + (plainF (List.drop x1 y))))) →
  Bth q10 (
  ((ile (0 : Int) ((x1 : Nat) : Int)) = true) ∧
  (q10 = true) ∧
  Bth q15 (
  ((ile (0 : Int) ((x1 : Nat) : Int)) = true) ∧
  (q10 = true) ∧
  Bth q16 (
  ((ile (0 : Int) ((x1 : Nat) : Int)) = true) ∧
  (q10 = true) ∧
  Bth q18 (
  ∃ z1 : Nat,
  Rfs [y] (
  Rfs [x.2] (
  Rfs [q2] (
  (q14 = ((z1 : Nat) : Int)) ∧
  (Iv ((((z.1 : Nat) ≤ z1) ∧ ((z1 : Nat) ≤ q0) ∧ q13 = (((z1 : Nat) - z.1 : Nat) + (plainF (List.drop z1 y)))) ∧ ((q0 : Nat) - z1 : Nat) < ((q0 : Nat) - x1))))))) (
  q21)) (
  q21)) (
  q21)) (
  q21)));
  (Iv (rwoI y x.1 x.2)) →
  Bth q3 (
  ((ile (0 : Int) q2) = true) ∧
  (q3 = true) ∧
  Bth q6 (
  (Iv ((((0 : Int) : Int) ≤ q2) ∧ ((q2 : Int) < ((q0 : Nat) : Int)) ∧ (q0 : Nat) ≤ 2000)) ∧
  Rfs [y] (
  Rfs [q2] (
  Bth q5 (
  q1) (
  ((fits (llen q8) 24) = true) ∧
  Bth q4 (
  (q8 = (wordsF y)) ∧
  (true = (wordsE y)) ∧
  True) (
  ((ile (0 : Int) (rqN y q2)) = true) ∧
  ((ilt (rqN y q2) (slen y)) = true) ∧
  Bth q7 (
  q1) (
  ∃ z : Prod Nat (List (Prod (List UInt8) Bool)),
  Rfs [y] (
  (q8 = z.2) ∧
  ((iadd .i64 (rqN y q2) (1 : Int)) = ((z.1 : Nat) : Int)) ∧
  (Iv ((rwoI y z.1 z.2) ∧ (((q0 : Nat) + 1 : Nat) - z.1 : Nat) < (((q0 : Nat) + 1 : Nat) - x.1)))))))))) (
  q22)) (
  q22))
theorem rwoV_eq : ∀ y, rwoVC y = rwoV y := fun y => by kernel_rfl
def whoVC (y : List UInt8) : Prop :=
 let q0 := slen (digsF y);
 let q1 := Bool.not (belowF y);
 let q2 := List.length (digsF y);
 let q3 := seq (digsF y) ([] : List UInt8);
 let q4 := ilt (1 : Int) (slen y);
 let q5 := ilt (19 : Int) q0;
 let q6 := ilt (1 : Int) q0;
 let q7 := ieq (sat y (0 : Int)) (45 : Int);
 let q8 := ieq (sat (digsF y) (0 : Int)) (48 : Int);
 let q9 : Prop := (
 ((0 : Int) = (wholeN y)) ∧
 (false = (wholeE y)) ∧
 True);
 let q10 : Prop := (
 ∃ z : Unit,
  Rfs [belowF y] (
  Rfs [digsF y] (
  (Iv (okDg y)))));
 Bth q4 (
  Tt 1 (
  ((ilt (0 : Int) (slen y)) = true) ∧
  (
  Bth q7 (
  Tt 1 (
  ((ile (1 : Int) (llen y)) = true) ∧
  ∃ z : Unit,
  (q7 = (belowF y)) ∧
  ((ldrop y (1 : Int)) = (digsF y)) ∧
  (Iv True))) (
  ∃ z : Unit,
  (q7 = (belowF y)) ∧
  (y = (digsF y)) ∧
  (Iv True))) ∧
  (
  ∀ x : Unit,
  (Iv True) →
  (
  Bth q3 (
  q9) (
  Bth q5 (
  q9) (
  Tt 1 (
  ((ilt (0 : Int) q0) = true) ∧
  Bth q8 (
  Bth (belowF y) (
  q9) (
  Bth q6 (
  q9) (
  q10))) (
  q10))))) ∧
  (
  ∀ x1 : Unit,
  (Iv (okDg y)) →
  (
  ∃ z : Nat,
 let q11 := List.take z (digsF y);
  Rfs [belowF y] (
  Rfs [digsF y] (
  ((0 : Int) = ((valF 0 q11 : Nat) : Int)) ∧
  ((0 : Int) = ((z : Nat) : Int)) ∧
  (Iv (((z : Nat) ≤ q2) ∧ (allDig q11) = true))))) ∧
  (
  ∀ x2 : Nat,
 let q12 := List.take x2 (digsF y);
 let q13 := sat (digsF y) ((x2 : Nat) : Int);
 let q14 := ilt ((x2 : Nat) : Int) q0;
 let q15 := ((valF 0 q12 : Nat) : Int);
 let q16 := ilt q13 (48 : Int);
 let q17 := ilt (57 : Int) q13;
 let q18 := ilt (9223372036854775808 : Int) q15;
 let q19 := ieq q15 (9223372036854775808 : Int);
 let q20 : Prop := (
 Bth (belowF y) (
  ((icv .i64 (ineg .u64 q15)) = (wholeN y)) ∧
  (true = (wholeE y)) ∧
  True) (
  ((icv .i64 q15) = (wholeN y)) ∧
  (true = (wholeE y)) ∧
  True));
  (Iv (((x2 : Nat) ≤ q2) ∧ (allDig q12) = true)) →
  Bth q14 (
  ((ile (0 : Int) ((x2 : Nat) : Int)) = true) ∧
  (q14 = true) ∧
  Bth q16 (
  q9) (
  ((ile (0 : Int) ((x2 : Nat) : Int)) = true) ∧
  (q14 = true) ∧
  Bth q17 (
  q9) (
  ((ile (0 : Int) ((x2 : Nat) : Int)) = true) ∧
  (q14 = true) ∧
  ∃ z : Nat,
 let q21 := List.take z (digsF y);
  Rfs [belowF y] (
  Rfs [digsF y] (
  ((iadd .u64 (imul .u64 q15 (10 : Int)) (icv .u64 (isub .u8 q13 (48 : Int)))) = ((valF 0 q21 : Nat) : Int)) ∧
  ((iadd .i64 ((x2 : Nat) : Int) (1 : Int)) = ((z : Nat) : Int)) ∧
  (Iv ((((z : Nat) ≤ q2) ∧ (allDig q21) = true) ∧ ((q2 : Nat) - z : Nat) < ((q2 : Nat) - x2)))))))) (
  Bth q18 (
  q9) (
  Bth q19 (
  Bth q1 (
  q9) (
  q20)) (
  q20)))))))) (
  (
  ∃ z : Unit,
  (false = (belowF y)) ∧
  (y = (digsF y)) ∧
  (Iv True)) ∧
  (
  ∀ x : Unit,
  (Iv True) →
  (
  Bth q3 (
  q9) (
  Bth q5 (
  q9) (
  Tt 1 (
  ((ilt (0 : Int) q0) = true) ∧
  Bth q8 (
  Bth (belowF y) (
  q9) (
  Bth q6 (
  q9) (
  q10))) (
  q10))))) ∧
  (
  ∀ x1 : Unit,
  (Iv (okDg y)) →
  (
  ∃ z : Nat,
 let q22 := List.take z (digsF y);
  Rfs [belowF y] (
  Rfs [digsF y] (
  ((0 : Int) = ((valF 0 q22 : Nat) : Int)) ∧
  ((0 : Int) = ((z : Nat) : Int)) ∧
  (Iv (((z : Nat) ≤ q2) ∧ (allDig q22) = true))))) ∧
  (
  ∀ x2 : Nat,
 let q23 := List.take x2 (digsF y);
 let q24 := sat (digsF y) ((x2 : Nat) : Int);
 let q25 := ilt ((x2 : Nat) : Int) q0;
 let q26 := ((valF 0 q23 : Nat) : Int);
 let q27 := ilt q24 (48 : Int);
 let q28 := ilt (57 : Int) q24;
 let q29 := ilt (9223372036854775808 : Int) q26;
 let q30 := ieq q26 (9223372036854775808 : Int);
 let q31 : Prop := (
 Bth (belowF y) (
  ((icv .i64 (ineg .u64 q26)) = (wholeN y)) ∧
  (true = (wholeE y)) ∧
  True) (
  ((icv .i64 q26) = (wholeN y)) ∧
  (true = (wholeE y)) ∧
  True));
  (Iv (((x2 : Nat) ≤ q2) ∧ (allDig q23) = true)) →
  Bth q25 (
  ((ile (0 : Int) ((x2 : Nat) : Int)) = true) ∧
  (q25 = true) ∧
  Bth q27 (
  q9) (
  ((ile (0 : Int) ((x2 : Nat) : Int)) = true) ∧
  (q25 = true) ∧
  Bth q28 (
  q9) (
  ((ile (0 : Int) ((x2 : Nat) : Int)) = true) ∧
  (q25 = true) ∧
  ∃ z : Nat,
 let q32 := List.take z (digsF y);
  Rfs [belowF y] (
  Rfs [digsF y] (
  ((iadd .u64 (imul .u64 q26 (10 : Int)) (icv .u64 (isub .u8 q24 (48 : Int)))) = ((valF 0 q32 : Nat) : Int)) ∧
  ((iadd .i64 ((x2 : Nat) : Int) (1 : Int)) = ((z : Nat) : Int)) ∧
  (Iv ((((z : Nat) ≤ q2) ∧ (allDig q32) = true) ∧ ((q2 : Nat) - z : Nat) < ((q2 : Nat) - x2)))))))) (
  Bth q29 (
  q9) (
  Bth q30 (
  Bth q1 (
  q9) (
  q31)) (
  q31)))))))
theorem whoV_eq : ∀ y, whoVC y = whoV y := fun y => by kernel_rfl
def rnuVC (y : Prod (List UInt8) Bool) : Prop :=
 let q0 := Bool.not y.2;
 let q1 := wholeN y.1;
 let q2 := wholeE y.1;
 let q3 := ile (0 : Int) q1;
 let q4 : Prop := (
 Rfs [q1] (
  (false = (numW y)) ∧
  True));
 (Iv ((List.length y.1 : Nat) ≤ 2000)) ∧
 Rfs [y.1] (
  Bth q0 (
  Bth q2 (
  Bth q3 (
  Rfs [q1] (
  ((ile q1 (4611686018427387904 : Int)) = (numW y)) ∧
  True)) (
  q4)) (
  q4)) (
  q4))
theorem rnuV_eq : ∀ y, rnuVC y = rnuV y := fun y => by kernel_rfl
end Go.Proofs.YtjdehneddakpnaaGreatDoor.sx
namespace Go.Proofs.YtjdehneddakpnaaGreatDoor.sx
open Go Go.RowKit
noncomputable section
def rruC : Con D := con0 39 (List Wd) inWs (fun y => y.length ≤ 10000) (fun y => [.list 1 y]) fun y => .tuple [.agg [.list 2 (rsetGo [] y).1, .str (rsetGo [] y).2.1], .bool (rsetGo [] y).2.2]
def rruO (y : rruC.Y) : Orc D := ⟨[], [], [(58, { X := Nat × List Pat, keep := [0, 2], sl := fun x => [(4, .ptr 1 0), (5, .int .i64 x.1)], kp := [0], pc := fun x => [(1, .cells [.grow 2 x.2 2, .str []] 25 false), (2, .tok 2 69)], nx := 3, inv := fun x => x.1 ≤ y.length ∧ x.2.length ≤ x.1 ∧ rsetGo [] y = rsetGo x.2 (y.drop x.1), me := fun x => y.length - x.1 })], [], 1, []⟩
def rruV (y : rruC.Y) : Prop := vc [] Tryz.f39 rruC rruO y
def plainA (l : List Wd) : Bool := l.all fun w => !w.2
def rstV0 (l : List Wd) : Sv :=
  if w0 l = kPoll then { sv0 with kind := 6 }
  else if w0 l = kOpen then { sv0 with kind := 10 }
  else if w0 l = kCut then (if l.length = 3 ∧ plainA l = true then { sv0 with kind := 4, name := (wd l 1).1, n := wholeN (wd l 2).1 } else sv0)
  else if w0 l = kQuery then (if l.length = 2 then { sv0 with kind := 8, n := wholeN (wd l 1).1 } else sv0)
  else if w0 l = kCrash then (if l.length = 2 then { sv0 with kind := 9, n := wholeN (wd l 1).1 } else sv0)
  else if w0 l = kLoad then { sv0 with kind := 7, rules := (rsetGo [] (l.drop 1)).1, cont := (rsetGo [] (l.drop 1)).2.1 }
  else (stepF l).getD sv0
def rstC : Con D := con0 22 (List Wd) inWs (fun y => shortW y ∧ y.length ≤ 10000 ∧ 1 ≤ y.length ∧ (wd y 0).2 = false) (fun y => [.list 1 y]) fun y => .tuple [.agg (svL (rstV0 y)), .bool (stepF y).isSome]
def rstO (y : rstC.Y) : Orc D := ⟨[], [], [(122, { X := Nat, keep := [0, 2, 4], sl := fun i => [(5, .bool (plainA (y.take i))), (6, .int .i64 i)], kp := [0], pc := fun _ => [], nx := 1, inv := fun i => i ≤ y.length, me := fun i => y.length - i })], [], 1, []⟩
def rstV (y : rstC.Y) : Prop := vc [rnuC, rruC] Tryz.f22 rstC rstO y
def rpaC : Con D := { parC with f := 9 }
def rpaV (y : rpaC.Y) : Prop := vc [rwoC, rstC] Tryz.f9 rpaC noO y
end
end Go.Proofs.YtjdehneddakpnaaGreatDoor.sx
namespace Go.Proofs.YtjdehneddakpnaaGreatDoor.sx
open Go Go.RowKit
def rruVC (y : List (Prod (List UInt8) Bool)) : Prop :=
 let q0 := List.length y;
 let q1 := rsetGo ([] : List (Prod (List UInt8) (List UInt8))) y;
 let q2 : Prop := (
 (([] : List (Prod (List UInt8) (List UInt8))) = q1.1) ∧
 (([] : List UInt8) = q1.2.1) ∧
 (false = q1.2.2) ∧
 True);
 (
  ∃ z : Prod Nat (List (Prod (List UInt8) (List UInt8))),
  Rfs [y] (
  ((0 : Int) = ((z.1 : Nat) : Int)) ∧
  (([] : List (Prod (List UInt8) (List UInt8))) = z.2) ∧
  Rfs [([] : List UInt8), ([] : List UInt8)] (
  (Iv (((z.1 : Nat) ≤ q0) ∧ ((List.length z.2 : Nat) ≤ z.1) ∧ q1 = (rsetGo z.2 (List.drop z.1 y))))))) ∧
 (
  ∀ x : Prod Nat (List (Prod (List UInt8) (List UInt8))),
 let q3 := ((x.1 : Nat) : Int);
 let q4 := ilt q3 (llen y);
 let q5 := iadd .i64 q3 (2 : Int);
 let q6 := iadd .i64 q3 (1 : Int);
 let q7 := ile (llen y) q6;
 let q8 := ieq q5 (llen y);
 let q9 := gt (([] : List UInt8), false) y (Int.toNat q3);
 let q10 := gt (([] : List UInt8), false) y (Int.toNat q6);
 let q11 := Bool.not q10.2;
 let q12 := seq q9.1 ((99 : UInt8) :: ((111 : UInt8) :: ((110 : UInt8) :: ((116 : UInt8) :: ([] : List UInt8)))));
 let q13 := lcat x.2 ((q9.1, q10.1) :: ([] : List (Prod (List UInt8) (List UInt8))));
 let q14 : Prop := (
 ((ile (0 : Int) q3) = true) ∧
 (q4 = true) ∧
 ((ile (0 : Int) q6) = true) ∧
 ((ilt q6 (llen y)) = true) ∧
 ((fits (llen q13) 32) = true) ∧
 Rfs [x.2] (
  Rfs [q9.1, q10.1] (
  ∃ z : Prod Nat (List (Prod (List UInt8) (List UInt8))),
  Rfs [y] (
  (q5 = ((z.1 : Nat) : Int)) ∧
  (q13 = z.2) ∧
  Rfs [([] : List UInt8), ([] : List UInt8)] (
  (Iv ((((z.1 : Nat) ≤ q0) ∧ ((List.length z.2 : Nat) ≤ z.1) ∧ q1 = (rsetGo z.2 (List.drop z.1 y))) ∧ ((q0 : Nat) - z.1 : Nat) < ((q0 : Nat) - x.1))))))));
  (Iv (((x.1 : Nat) ≤ q0) ∧ ((List.length x.2 : Nat) ≤ x.1) ∧ q1 = (rsetGo x.2 (List.drop x.1 y)))) →
  Bth q4 (
  Bth q7 (
  q2) (
  ((ile (0 : Int) q3) = true) ∧
  (q4 = true) ∧
  Bth q9.2 (
  q2) (
  ((ile (0 : Int) q6) = true) ∧
  ((ilt q6 (llen y)) = true) ∧
  Bth q11 (
  q2) (
  ((ile (0 : Int) q3) = true) ∧
  (q4 = true) ∧
  Bth q12 (
  Bth q8 (
  ((ile (0 : Int) q6) = true) ∧
  ((ilt q6 (llen y)) = true) ∧
  Rfs [x.2] (
  Rfs [q10.1, q10.1, q10.1] (
  (x.2 = q1.1) ∧
  (q10.1 = q1.2.1) ∧
  ((Bool.not (seq q10.1 ([] : List UInt8))) = q1.2.2) ∧
  True))) (
  q14)) (
  q14))))) (
  (x.2 = q1.1) ∧
  (([] : List UInt8) = q1.2.1) ∧
  (true = q1.2.2) ∧
  True))
theorem rruV_eq : ∀ y, rruVC y = rruV y := fun y => by kernel_rfl
def rstVC (y : List (Prod (List UInt8) Bool)) : Prop :=
 let q0 := Option.isSome (stepF y);
 let q1 := List.length y;
 let q2 := ldrop y (1 : Int);
 let q3 := Bool.not (ieq (llen y) (3 : Int));
 let q4 := Bool.not (ieq (llen y) (2 : Int));
 let q5 := gt (([] : List UInt8), false) y 2;
 let q6 := gt (([] : List UInt8), false) y 1;
 let q7 := (gt (([] : List UInt8), false) y 0).1;
 let q8 := rsetGo ([] : List (Prod (List UInt8) (List UInt8))) q2;
 let q9 := Bool.not q5.2;
 let q10 : Prop := (
 (([] : List (Prod (List UInt8) (List UInt8))) = (Sv.rules (rstV0 y))) ∧
 (([] : List UInt8) = (Sv.cont (rstV0 y))) ∧
 (true = q0) ∧
 True);
 let q11 := seq q7 ((99 : UInt8) :: ((117 : UInt8) :: ((116 : UInt8) :: ([] : List UInt8))));
 let q12 : Prop := (
 (([] : List UInt8) = (Sv.data (rstV0 y))) ∧
 q10);
 let q13 := seq q7 ((108 : UInt8) :: ((111 : UInt8) :: ((97 : UInt8) :: ((100 : UInt8) :: ([] : List UInt8)))));
 let q14 := seq q7 ((112 : UInt8) :: ((111 : UInt8) :: ((108 : UInt8) :: ((108 : UInt8) :: ([] : List UInt8)))));
 let q15 := seq q7 ((111 : UInt8) :: ((112 : UInt8) :: ((101 : UInt8) :: ((110 : UInt8) :: ([] : List UInt8)))));
 let q16 := seq q7 ((113 : UInt8) :: ((117 : UInt8) :: ((101 : UInt8) :: ((114 : UInt8) :: ((121 : UInt8) :: ([] : List UInt8))))));
 let q17 := seq q7 ((99 : UInt8) :: ((114 : UInt8) :: ((97 : UInt8) :: ((115 : UInt8) :: ((104 : UInt8) :: ([] : List UInt8))))));
 let q18 := seq q7 ((97 : UInt8) :: ((112 : UInt8) :: ((112 : UInt8) :: ((101 : UInt8) :: ((110 : UInt8) :: ((100 : UInt8) :: ([] : List UInt8)))))));
 let q19 := seq q7 ((114 : UInt8) :: ((101 : UInt8) :: ((110 : UInt8) :: ((97 : UInt8) :: ((109 : UInt8) :: ((101 : UInt8) :: ([] : List UInt8)))))));
 let q20 := seq q7 ((114 : UInt8) :: ((101 : UInt8) :: ((109 : UInt8) :: ((111 : UInt8) :: ((118 : UInt8) :: ((101 : UInt8) :: ([] : List UInt8)))))));
 let q21 := seq q7 ((99 : UInt8) :: ((114 : UInt8) :: ((101 : UInt8) :: ((97 : UInt8) :: ((116 : UInt8) :: ((101 : UInt8) :: ([] : List UInt8)))))));
 let q22 : Prop := (
 ((0 : Int) = (Sv.kind (rstV0 y))) ∧
 ((0 : Int) = (Sv.n (rstV0 y))) ∧
 (([] : List UInt8) = (Sv.name (rstV0 y))) ∧
 (([] : List UInt8) = (Sv.to (rstV0 y))) ∧
 (([] : List UInt8) = (Sv.data (rstV0 y))) ∧
 (([] : List (Prod (List UInt8) (List UInt8))) = (Sv.rules (rstV0 y))) ∧
 (([] : List UInt8) = (Sv.cont (rstV0 y))) ∧
 (false = q0) ∧
 True);
 let q23 : Prop := (
 ((0 : Int) = (Sv.n (rstV0 y))) ∧
 (([] : List UInt8) = (Sv.name (rstV0 y))) ∧
 (([] : List UInt8) = (Sv.to (rstV0 y))) ∧
 (([] : List UInt8) = (Sv.data (rstV0 y))) ∧
 (([] : List (Prod (List UInt8) (List UInt8))) = (Sv.rules (rstV0 y))) ∧
 (([] : List UInt8) = (Sv.cont (rstV0 y))) ∧
 ((ieq (llen y) (1 : Int)) = q0) ∧
 True);
 let q24 : Prop := (
 ((0 : Int) = (Sv.n (rstV0 y))) ∧
 (q6.1 = (Sv.name (rstV0 y))) ∧
 (([] : List UInt8) = (Sv.to (rstV0 y))) ∧
 q12);
 let q25 : Prop := (
 ((wholeN q6.1) = (Sv.n (rstV0 y))) ∧
 (([] : List UInt8) = (Sv.name (rstV0 y))) ∧
 (([] : List UInt8) = (Sv.to (rstV0 y))) ∧
 (([] : List UInt8) = (Sv.data (rstV0 y))) ∧
 (([] : List (Prod (List UInt8) (List UInt8))) = (Sv.rules (rstV0 y))) ∧
 (([] : List UInt8) = (Sv.cont (rstV0 y))) ∧
 ((numW (q6.1, q6.2)) = q0) ∧
 True);
 let q26 : Prop := (
 Bth q13 (
  Tt 1 (
  ((ile (1 : Int) (llen y)) = true) ∧
  (Iv ((List.length q2 : Nat) ≤ 10000)) ∧
  Rfs [q2] (
  ((7 : Int) = (Sv.kind (rstV0 y))) ∧
  ((0 : Int) = (Sv.n (rstV0 y))) ∧
  (([] : List UInt8) = (Sv.name (rstV0 y))) ∧
  (([] : List UInt8) = (Sv.to (rstV0 y))) ∧
  (([] : List UInt8) = (Sv.data (rstV0 y))) ∧
  (q8.1 = (Sv.rules (rstV0 y))) ∧
  (q8.2.1 = (Sv.cont (rstV0 y))) ∧
  (q8.2.2 = q0) ∧
  True))) (
  q22));
 let q27 : Prop := (
 Bth q4 (
  q22) (
  Tt 1 (
  ((ilt (1 : Int) (llen y)) = true) ∧
  (Iv ((List.length q6.1 : Nat) ≤ 2000)) ∧
  Rfs [q6.1] (
  Rfs [q6.2] (
  Tt 1 (
  ((ilt (0 : Int) (llen y)) = true) ∧
  Bth q17 (
  ((9 : Int) = (Sv.kind (rstV0 y))) ∧
  q25) (
  ((8 : Int) = (Sv.kind (rstV0 y))) ∧
  q25)))))));
 (
  ∃ z : Nat,
  Rfs [y] (
  Rfs [llen y] (
  (true = (plainA (List.take z y))) ∧
  ((0 : Int) = ((z : Nat) : Int)) ∧
  Rfs [([] : List UInt8), ([] : List UInt8), ([] : List UInt8)] (
  (Iv ((z : Nat) ≤ q1)))))) ∧
 (
  ∀ x : Nat,
 let q28 := plainA (List.take x y);
 let q29 := Bool.not q28;
 let q30 := ilt ((x : Nat) : Int) (llen y);
 let q31 : Prop := (
 Bth q4 (
  q22) (
  Bth q29 (
  q22) (
  Tt 1 (
  ((ilt (1 : Int) (llen y)) = true) ∧
  Tt 1 (
  ((ilt (0 : Int) (llen y)) = true) ∧
  Bth q20 (
  ((5 : Int) = (Sv.kind (rstV0 y))) ∧
  q24) (
  ((1 : Int) = (Sv.kind (rstV0 y))) ∧
  q24))))));
 let q32 : Prop := (
 Bth q18 (
  Bth q3 (
  q22) (
  Tt 1 (
  ((ilt (1 : Int) (llen y)) = true) ∧
  Bth q6.2 (
  q22) (
  Tt 1 (
  ((ilt (2 : Int) (llen y)) = true) ∧
  Bth q9 (
  q22) (
  Tt 1 (
  ((ilt (1 : Int) (llen y)) = true) ∧
  Tt 1 (
  ((ilt (2 : Int) (llen y)) = true) ∧
  Rfs [q6.1, q5.1] (
  ((2 : Int) = (Sv.kind (rstV0 y))) ∧
  ((0 : Int) = (Sv.n (rstV0 y))) ∧
  (q6.1 = (Sv.name (rstV0 y))) ∧
  (([] : List UInt8) = (Sv.to (rstV0 y))) ∧
  (q5.1 = (Sv.data (rstV0 y))) ∧
  q10))))))))) (
  Bth q19 (
  Bth q3 (
  q22) (
  Bth q29 (
  q22) (
  Tt 1 (
  ((ilt (1 : Int) (llen y)) = true) ∧
  Tt 1 (
  ((ilt (2 : Int) (llen y)) = true) ∧
  Rfs [q6.1, q5.1] (
  ((3 : Int) = (Sv.kind (rstV0 y))) ∧
  ((0 : Int) = (Sv.n (rstV0 y))) ∧
  (q6.1 = (Sv.name (rstV0 y))) ∧
  (q5.1 = (Sv.to (rstV0 y))) ∧
  q12)))))) (
  Bth q11 (
  Bth q3 (
  q22) (
  Bth q29 (
  q22) (
  Tt 1 (
  ((ilt (2 : Int) (llen y)) = true) ∧
  (Iv ((List.length q5.1 : Nat) ≤ 2000)) ∧
  Rfs [q5.1] (
  Rfs [q5.2] (
  Tt 1 (
  ((ilt (1 : Int) (llen y)) = true) ∧
  ((4 : Int) = (Sv.kind (rstV0 y))) ∧
  ((wholeN q5.1) = (Sv.n (rstV0 y))) ∧
  (q6.1 = (Sv.name (rstV0 y))) ∧
  (([] : List UInt8) = (Sv.to (rstV0 y))) ∧
  (([] : List UInt8) = (Sv.data (rstV0 y))) ∧
  (([] : List (Prod (List UInt8) (List UInt8))) = (Sv.rules (rstV0 y))) ∧
  (([] : List UInt8) = (Sv.cont (rstV0 y))) ∧
  ((numW (q5.1, q5.2)) = q0) ∧
  True))))))) (
  Bth q16 (
  Bth q16 (
  q27) (
  q26)) (
  Bth q17 (
  q27) (
  q26))))));
  (Iv ((x : Nat) ≤ q1)) →
  Bth q30 (
  Bth q28 (
  ((ile (0 : Int) ((x : Nat) : Int)) = true) ∧
  (q30 = true) ∧
  ∃ z : Nat,
  Rfs [y] (
  Rfs [llen y] (
  ((Bool.not (gt (([] : List UInt8), false) y (Int.toNat ((x : Nat) : Int))).2) = (plainA (List.take z y))) ∧
  ((iadd .i64 ((x : Nat) : Int) (1 : Int)) = ((z : Nat) : Int)) ∧
  Rfs [([] : List UInt8), ([] : List UInt8), ([] : List UInt8)] (
  (Iv (((z : Nat) ≤ q1) ∧ ((q1 : Nat) - z : Nat) < ((q1 : Nat) - x))))))) (
  ∃ z : Nat,
  Rfs [y] (
  Rfs [llen y] (
  (false = (plainA (List.take z y))) ∧
  ((iadd .i64 ((x : Nat) : Int) (1 : Int)) = ((z : Nat) : Int)) ∧
  Rfs [([] : List UInt8), ([] : List UInt8), ([] : List UInt8)] (
  (Iv (((z : Nat) ≤ q1) ∧ ((q1 : Nat) - z : Nat) < ((q1 : Nat) - x)))))))) (
  Tt 1 (
  ((ilt (0 : Int) (llen y)) = true) ∧
  Bth q14 (
  ((6 : Int) = (Sv.kind (rstV0 y))) ∧
  q23) (
  Bth q15 (
  ((10 : Int) = (Sv.kind (rstV0 y))) ∧
  q23) (
  Bth q21 (
  Bth q21 (
  q31) (
  q32)) (
  Bth q20 (
  q31) (
  q32)))))))
theorem rstV_eq : ∀ y, rstVC y = rstV y := fun y => by kernel_rfl
def rpaVC (y : List UInt8) : Prop :=
 let q0 := rstV0 (wordsF y);
 let q1 := Bool.not (wordsE y);
 let q2 := Bool.not (Option.isSome (stepF (wordsF y)));
 let q3 := List.length (wordsF y);
 let q4 := ilt (2000 : Int) (slen y);
 let q5 := (gt (([] : List UInt8), false) (wordsF y) 0).2;
 let q6 : Prop := (
 ((0 : Int) = (Sv.kind (parseF y))) ∧
 ((0 : Int) = (Sv.n (parseF y))) ∧
 (([] : List UInt8) = (Sv.name (parseF y))) ∧
 (([] : List UInt8) = (Sv.to (parseF y))) ∧
 (([] : List UInt8) = (Sv.data (parseF y))) ∧
 (([] : List (Prod (List UInt8) (List UInt8))) = (Sv.rules (parseF y))) ∧
 (([] : List UInt8) = (Sv.cont (parseF y))) ∧
 ((4 : Int) = (parseN y)) ∧
 True);
 Bth q4 (
  ((0 : Int) = (Sv.kind (parseF y))) ∧
  ((0 : Int) = (Sv.n (parseF y))) ∧
  (([] : List UInt8) = (Sv.name (parseF y))) ∧
  (([] : List UInt8) = (Sv.to (parseF y))) ∧
  (([] : List UInt8) = (Sv.data (parseF y))) ∧
  (([] : List (Prod (List UInt8) (List UInt8))) = (Sv.rules (parseF y))) ∧
  (([] : List UInt8) = (Sv.cont (parseF y))) ∧
  ((2 : Int) = (parseN y)) ∧
  True) (
  (Iv ((List.length y : Nat) ≤ 2000)) ∧
  Rfs [y] (
  Bth q1 (
  q6) (
  Tt 1 (
  ((ilt (0 : Int) (llen (wordsF y))) = true) ∧
  Bth q5 (
  q6) (
  (Iv ((shortW (wordsF y)) ∧ ((q3 : Nat) ≤ 10000) ∧ ((1 : Nat) ≤ q3) ∧ (wd (wordsF y) 0).2 = false)) ∧
  Rfs [wordsF y] (
  Bth q2 (
  q6) (
  ((Sv.kind q0) = (Sv.kind (parseF y))) ∧
  ((Sv.n q0) = (Sv.n (parseF y))) ∧
  ((Sv.name q0) = (Sv.name (parseF y))) ∧
  ((Sv.to q0) = (Sv.to (parseF y))) ∧
  ((Sv.data q0) = (Sv.data (parseF y))) ∧
  ((Sv.rules q0) = (Sv.rules (parseF y))) ∧
  ((Sv.cont q0) = (Sv.cont (parseF y))) ∧
  ((0 : Int) = (parseN y)) ∧
  True)))))))
theorem rpaV_eq : ∀ y, rpaVC y = rpaV y := fun y => by kernel_rfl
end Go.Proofs.YtjdehneddakpnaaGreatDoor.sx
namespace Go.Proofs.YtjdehneddakpnaaGreatDoor.sx
open Go Go.RowKit
theorem stp_below {M : Pm D} {w w' : World} {H : Hp D} (hS : Sim M H w) (h : Below w.heap.size w w') : Stp H M w H M w' 0 0 := .world hS h.size (fun c hc => h.block c hc) h.os h.tape h.output 0
theorem args1 {M : Pm D} {a : AV D.E} {A : Array Value} (h : LR M [a] A.toList) : ∃ v, A = #[v] ∧ VR M a v := by
  obtain ⟨l⟩ := A
  obtain ⟨v, r, e, h1, h2⟩ := h.uncons
  have := h2.nil_l
  subst this
  exact ⟨v, by simp at e; rw [e], h1⟩
theorem args2 {M : Pm D} {a b : AV D.E} {A : Array Value} (h : LR M [a, b] A.toList) : ∃ v u, A = #[v, u] ∧ VR M a v ∧ VR M b u := by
  obtain ⟨l⟩ := A
  obtain ⟨v, r, e, h1, h2⟩ := h.uncons
  obtain ⟨u, r2, e2, h3, h4⟩ := h2.uncons
  have := h4.nil_l
  subst this
  exact ⟨v, u, by simp at e; rw [e, e2], h1, h3⟩
theorem idx_le (l : List UInt8) (c : UInt8) : -1 ≤ Lib.indexByte l c ∧ Lib.indexByte l c ≤ l.length := by
  induction l with
  | nil => simp [Lib.indexByte]
  | cons b l ih =>
    unfold Lib.indexByte
    simp only [List.length_cons]
    split
    · omega
    · split
      · omega
      · omega
theorem idxOk : Ok idxC := by
  refine ⟨⟨Tryz.f67, _, by kernel_rfl, body_some (by kernel_rfl)⟩, fun y hy M A w hA hS _ R hR => ?_⟩
  obtain ⟨s, c⟩ := y
  obtain ⟨v, u, rfl, hv, hu⟩ := args2 hA
  cases hv with
  | str hs =>
    cases hu with
    | int hc =>
      refine (Tryz.strings_IndexByte ⟨⟨s⟩⟩ c w).mono fun e w' ⟨he, hw⟩ => ?_
      subst hw he
      have hb := idx_le s (b8 c)
      have hs : s.length ≤ 9223372036854775807 := hs
      refine hR M (.int .i64 (Lib.indexByte s (b8 c))) w' ?_ (.refl hS 0)
      have hr : inR .i64 (Lib.indexByte s (b8 c)) = true := inR64.2 ⟨by omega, by omega⟩
      exact VR.int hr
theorem itoOk : Ok itoC := by
  refine ⟨⟨Tryz.f28, _, by kernel_rfl, body_some (by kernel_rfl)⟩, fun y hy M A w hA hS _ R hR => ?_⟩
  obtain ⟨v, rfl, hv⟩ := args1 hA
  cases hv with
  | int hn =>
    have hb := inR64.1 hn
    refine (Tryz.strconv_Itoa y hb.1 hb.2 w hS.glo.1.2.1).mono fun e w' ⟨he, k, os, hw⟩ => ?_
    subst he
    have hl := Lib.itoa_length_le y hb.1 hb.2
    refine hR M _ w' (.str (by omega)) (stp_below hS ?_)
    rw [hw]
    exact ⟨rfl, rfl, rfl, by show w.heap.size ≤ (w.heap ++ os).size; simp, fun j hj => by show (w.heap ++ os)[j]? = _; rw [Array.getElem?_append]; simp [hj]⟩
theorem atoOk : Ok atoC := by
  refine ⟨⟨Tryz.f50, _, by kernel_rfl, body_some (by kernel_rfl)⟩, fun y hy M A w hA hS _ R hR => ?_⟩
  obtain ⟨s, b⟩ := y
  obtain ⟨h1, h2⟩ : s.length ≤ 2000 ∧ b = atoiE s := hy
  subst h2
  obtain ⟨v, rfl, hv⟩ := args1 (a := .str s) hA
  cases hv with
  | str hs =>
    obtain ⟨_, hes, her⟩ : gwD w := hS.glo.1.2
    obtain ⟨te1, pe1, c1⟩ := hes.cell
    obtain ⟨te2, pe2, c2⟩ := her.cell
    have hs2 : (⟨⟨s⟩⟩ : ByteArray).size ≤ 2000 := h1
    have fin : ∀ {e : Ending} {w' : World} {n : Int} {ev : Value}, e = .returned (.tuple #[.int .i64 n, ev]) → inR .i64 n = true → n = atoiN s → Below w.heap.size w w' → ((atoiE s = true ∧ ev = .nilIface) ∨ (atoiE s = false ∧ ∃ N : Nat, ev = .iface 174 (.pointer (some ⟨N, 0, none⟩)))) → R e w' := fun he hr hn hb hc => by
      subst he hn
      refine hR M _ _ ?_ (stp_below hS hb)
      rcases hc with ⟨h, rfl⟩ | ⟨h, N, rfl⟩
      · show VR M (match atoiE s with | true => _ | false => _) _
        rw [h]
        exact VR.tupL (.cons (.int hr) (.cons .nilIface .nil))
      · show VR M (match atoiE s with | true => _ | false => _) _
        rw [h]
        exact VR.tupL (.cons (.int hr) (.cons (.iface _ (.pel (o := 0) fun i v e => by cases e)) .nil))
    cases ha : Lib.atoiAll s with
    | ok v =>
      obtain ⟨b0, b1⟩ := Lib.atoiAll_bounds ha
      have e1 : atoiN s = v := by unfold atoiN; rw [ha]
      have e2 : atoiE s = true := by unfold atoiE; rw [ha]
      refine (Tryz.strconv_Atoi_ok ⟨⟨s⟩⟩ (by omega) v ha w).mono fun e w' ⟨he, hw⟩ => fin he (inR64.2 ⟨by omega, by omega⟩) e1.symm ?_ (.inl ⟨e2, rfl⟩)
      rcases hw with rfl | ⟨t, rfl⟩
      · exact Below.refl _ _
      · exact Lib.bytesWorld_below _ _ _
    | range =>
      have e1 : atoiN s = Lib.atoiSat s := by unfold atoiN; rw [ha]
      have e2 : atoiE s = false := by unfold atoiE; rw [ha]
      obtain ⟨b0, b1⟩ := Lib.atoiSat_bounds s
      refine (Tryz.strconv_Atoi_range ⟨⟨s⟩⟩ (by omega) ha _ w c2 (.inr ⟨_, _, rfl⟩)).mono fun e w' ⟨N, he, _, _, hb⟩ => fin he (inR64.2 ⟨by omega, by omega⟩) e1.symm hb (.inr ⟨e2, N, rfl⟩)
    | _ =>
      have e1 : atoiN s = 0 := by unfold atoiN; rw [ha]
      have e2 : atoiE s = false := by unfold atoiE; rw [ha]
      refine (Tryz.strconv_Atoi_syntax ⟨⟨s⟩⟩ (by omega) ha _ w c1 (.inr ⟨_, _, rfl⟩)).mono fun e w' ⟨N, he, _, _, hb⟩ => fin he (by decide) e1.symm hb (.inr ⟨e2, N, rfl⟩)
end Go.Proofs.YtjdehneddakpnaaGreatDoor.sx
namespace Go.Proofs.YtjdehneddakpnaaGreatDoor.sx
open Go Go.RowKit
set_option maxRecDepth 100000
theorem sat_nat (y : By) (i : Nat) : sat y (i : Int) = ((y.getD i 0).toNat : Int) := by simp [sat]
theorem b8_nat (c : UInt8) : b8 (c.toNat : Int) = c := by
  apply UInt8.toNat_inj.1
  unfold b8
  rw [UInt8.toNat_ofNat']
  have := c.toNat_lt
  omega
theorem ldrop_nat {α : Type} (y : List α) (i : Nat) : ldrop y (i : Int) = y.drop i := by simp [ldrop]
theorem ltake_nat {α : Type} (y : List α) (i : Nat) : ltake y (i : Int) = y.take i := by simp [ltake]
theorem byte_eq {c d : UInt8} : (c.toNat : Int) = (d.toNat : Int) ↔ c = d := by
  rw [← UInt8.toNat_inj]; omega
theorem lhpH (y : By × By) (_hy : lhpC.pre y) : lhpVC y := by
  obtain ⟨s, p⟩ := y
  unfold lhpVC
  simp only [Rfs_eq, Bth_eq, and_true, ile_t, ile_f, slen_eq, llen_eq]
  refine ⟨fun h => ⟨by omega, h, ?_⟩, fun h => ?_⟩
  · rw [ltake_nat]
    unfold preF seq
    rw [decide_eq_true (p := p.length ≤ s.length) (by omega)]
    rfl
  · unfold preF
    rw [decide_eq_false (p := p.length ≤ s.length) (by omega)]
    rfl
theorem lhpOk : Ok lhpC := okW lhpV_eq trivial lhpH
theorem hprH (y : By × By) (_hy : hprC.pre y) : hprVC y := by
  unfold hprVC
  simp only [Rfs_eq, and_true]
  exact ⟨trivial⟩
theorem hprOk : Ok hprC := okW hprV_eq lhpOk hprH
def digs : By := [48, 49, 50, 51, 52, 53, 54, 55, 56, 57, 97, 98, 99, 100, 101, 102]
theorem idx_all : (List.range 256).all (fun n => decide (Lib.indexByte digs (UInt8.ofNat n) = hexF (UInt8.ofNat n))) = true := by decide +kernel
theorem idx_hex (c : UInt8) : Lib.indexByte digs c = hexF c := by
  have h := List.all_eq_true.1 idx_all c.toNat (List.mem_range.2 c.toNat_lt)
  have e : UInt8.ofNat c.toNat = c := by
    apply UInt8.toNat_inj.1
    rw [UInt8.toNat_ofNat']
    have := c.toNat_lt
    omega
  rw [e] at h
  exact of_decide_eq_true h
theorem hex_b (c : UInt8) : -1 ≤ hexF c ∧ hexF c ≤ 15 := by
  unfold hexF
  split
  · omega
  · split <;> omega
/-- a sign's value -/
theorem hex_byte {a b : Int} (h1 : 0 ≤ a) (h2 : a ≤ 15) (h3 : 0 ≤ b) (h4 : b ≤ 15) : icv .u8 (iadd .i64 (imul .i64 16 a) b) = max (16 * a + b) 0 % 256 := by
  rw [imul64 (by omega) (by omega), iadd64 (by omega) (by omega)]
  have e : icv .u8 (16 * a + b) = 16 * a + b := inR_wrap (inR_iff.2 ⟨by show (0 : Int) ≤ _; omega, by show _ ≤ (255 : Int); omega⟩)
  rw [e]
  omega
theorem b_ne {c : UInt8} {n : Nat} (h : ¬ c = UInt8.ofNat n) (hn : n < 256) : ¬ ((c.toNat : Int) = n) := fun e => h (by
  apply UInt8.toNat_inj.1
  rw [UInt8.toNat_ofNat']
  omega)
theorem signH (y : By) (_hy : signC.pre y) : signVC y := by
  unfold signVC
  simp only [Rfs_eq, Tt_eq, Bth_eq, and_true, ile_t, ile_f, ilt_t, ilt_f, ieq_t, ieq_f, slen_eq]
  rw [show ((48 : UInt8) :: 49 :: 50 :: 51 :: 52 :: 53 :: 54 :: 55 :: 56 :: 57 :: 97 :: 98 :: 99 :: 100 :: 101 :: 102 :: []) = digs from rfl]
  simp only [idx_hex]
  match y with
  | [] => exact ⟨fun _ => ⟨rfl, rfl⟩, fun h => by simp at h⟩
  | [a] => exact ⟨fun _ => ⟨rfl, rfl⟩, fun h => by simp at h⟩
  | a :: c :: t =>
    have e1 : sat (a :: c :: t) 1 = (c.toNat : Int) := sat_nat _ 1
    have e2 : sat (a :: c :: t) 2 = ((t.getD 0 0).toNat : Int) := sat_nat _ 2
    have e3 : sat (a :: c :: t) 3 = ((t.getD 1 0).toNat : Int) := sat_nat _ 3
    simp only [e1, e2, e3, b8_nat, List.length_cons]
    by_cases h1 : c = 34
    · subst h1; simp [signF]; omega
    by_cases h2 : c = 92
    · subst h2; simp [signF]; omega
    have n1 := b_ne (n := 34) h1 (by omega)
    have n2 := b_ne (n := 92) h2 (by omega)
    by_cases h3 : c = 110
    · subst h3; simp [signF]; omega
    by_cases h4 : c = 116
    · subst h4; simp [signF]; omega
    by_cases h5 : c = 114
    · subst h5; simp [signF]; omega
    have n3 := b_ne (n := 110) h3 (by omega)
    have n4 := b_ne (n := 116) h4 (by omega)
    have n5 := b_ne (n := 114) h5 (by omega)
    by_cases h6 : c = 120
    · subst h6
      match t with
      | [] => simp [signF]
      | [x] => simp [signF]
      | x :: z :: r =>
        have hx := hex_b x
        have hz := hex_b z
        have bx := x.toNat_lt
        have bz := z.toNat_lt
        by_cases px : 0 ≤ hexF x
        · by_cases pz : 0 ≤ hexF z
          · have hb := hex_byte px hx.2 pz hz.2
            simp [signF, px, pz, isB]
            exact ⟨by omega, fun _ => ⟨by omega, fun _ => ⟨by omega, ⟨by omega⟩, by omega, ⟨by omega⟩, hb⟩, by omega⟩⟩
          · simp [signF, px, pz, isB]
            exact fun _ => ⟨by omega, fun _ => ⟨by omega, ⟨by omega⟩, by omega, ⟨by omega⟩⟩⟩
        · simp [signF, px, isB]
          exact fun _ => ⟨by omega, fun _ => ⟨by omega, ⟨by omega⟩, by omega, ⟨by omega⟩⟩⟩
    · have n6 := b_ne (n := 120) h6 (by omega)
      simp [signF, h1, h2, h3, h4, h5, h6]
      omega
theorem signOk (hi : Ok idxC) : Ok signC := okW signV_eq hi signH
theorem qG_cons (c : UInt8) (t : By) : qG (c :: t) = if c = 34 then some ([], 1) else if c = 92 then (if (signF (c :: t)).2 = 0 then none else (qG ((c :: t).drop (signF (c :: t)).2)).map fun r => ((signF (c :: t)).1 :: r.1, r.2 + (signF (c :: t)).2))
    else if c.toNat < 32 ∨ 126 < c.toNat then none else (qG t).map fun r => (c :: r.1, r.2 + 1) := by
  show qGo (t.length + 1) (c :: t) = _
  have hs := signF_le (c :: t)
  unfold qGo
  by_cases h0 : (signF (c :: t)).2 = 0
  · rw [if_pos h0, if_pos h0]; rfl
  · rw [if_neg h0, if_neg h0, qGo_fuel t.length ((c :: t).drop (signF (c :: t)).2).length _ (by rw [List.length_drop, List.length_cons]; omega) (Nat.le_refl _)]; rfl
theorem quotF_qG (s : By) : quotF s = match qG (s.drop 1) with
    | some r => (r.1, r.2 + 1)
    | none => ([], 0) := by
  unfold quotF
  rw [qGo_fuel s.length (s.drop 1).length (s.drop 1) (by rw [List.length_drop]; omega) (Nat.le_refl _)]
  rfl
theorem drop_cons {α : Type} (d : α) {y : List α} {i : Nat} (h : i < y.length) : y.drop i = y.getD i d :: y.drop (i + 1) := by
  rw [List.drop_eq_getElem_cons h]
  simp [h]
theorem quoH (y : By) (hy : quoC.pre y) : quoVC y := by
  obtain ⟨y1, y2⟩ : 1 ≤ y.length ∧ y.length ≤ 2000 := hy
  unfold quoVC
  simp only [Rfs_eq, Bth_eq, and_true, ile_t, ile_f, ilt_t, ilt_f, ieq_t, ieq_f, Bool.not_eq_true', Bool.not_eq_false', slen_eq, llen_eq, lcat_eq, fits_t, ldrop_nat, sat_nat, b8_nat]
  refine ⟨⟨(1, []), rfl, rfl, ⟨by omega, y1, by simp, by simp⟩⟩, fun x hx => ?_⟩
  obtain ⟨i, out⟩ := x
  obtain ⟨h1, h2, h3, h4⟩ : quoI y i out := hx.out
  rw [quotF_qG, h4]
  have h3 : out.length < i := h3
  simp only at *
  refine ⟨fun hi => ⟨by omega, hi, fun hc => ⟨by omega, hi, fun hb => ⟨by omega, by omega, ⟨trivial⟩, fun hn => ?_, fun hn => ?_⟩, fun hb => ⟨fun hl => ?_, fun hl => ⟨fun hg => ?_, fun hg => ?_⟩⟩⟩, fun hc => ⟨fun hj => by omega, fun _ => ?_⟩⟩, fun hi => ⟨fun _ => ?_, fun hj => by omega⟩⟩
  all_goals (try (have hd := drop_cons (0 : UInt8) (show i < y.length by omega)))
  all_goals (try (have hs := signF_le (y.drop i)))
  all_goals (try rw [List.length_drop] at hs)
  · have e : y.getD i 0 = 92 := byte_eq.1 hb
    have hn : (signF (y.drop i)).2 = 0 := by omega
    rw [hd, e] at hn ⊢
    rw [qG_cons, if_neg (by decide), if_pos rfl, if_pos hn]
    exact ⟨rfl, rfl⟩
  · have e : y.getD i 0 = 92 := byte_eq.1 hb
    have hn : (signF (y.drop i)).2 ≠ 0 := by omega
    refine ⟨by simp; omega, (i + (signF (y.drop i)).2, out ++ [(signF (y.drop i)).1]), rfl, iadd64 (by omega) (by omega), ⟨⟨by omega, by omega, by simp; omega, ?_⟩, by omega⟩⟩
    rw [h4]
    simp only
    rw [show y.drop (i + (signF (y.drop i)).2) = (y.drop i).drop (signF (y.drop i)).2 by rw [List.drop_drop]]
    rw [hd, e] at hn ⊢
    rw [qG_cons, if_neg (by decide), if_pos rfl, if_neg hn, Option.map_map]
    congr 1
    funext r
    simp only [Function.comp, List.append_assoc, List.singleton_append, Prod.mk.injEq]
    exact ⟨trivial, by omega⟩
  · have b := (y.getD i 0).toNat_lt
    rw [hd, qG_cons, if_neg (fun e => hc (by rw [e]; rfl)), if_neg (fun e => hb (by rw [e]; rfl)), if_pos (by omega)]
    exact ⟨rfl, rfl⟩
  · rw [hd, qG_cons, if_neg (fun e => hc (by rw [e]; rfl)), if_neg (fun e => hb (by rw [e]; rfl)), if_pos (by omega)]
    exact ⟨rfl, rfl⟩
  · refine ⟨by simp; omega, (i + 1, out ++ [y.getD i 0]), rfl, iadd64 (by omega) (by omega), ⟨⟨by omega, by omega, by simp; omega, ?_⟩, by omega⟩⟩
    rw [h4, hd, qG_cons, if_neg (fun e => hc (by rw [e]; rfl)), if_neg (fun e => hb (by rw [e]; rfl)), if_neg (by omega), Option.map_map]
    congr 1
    funext r
    simp only [Function.comp, List.append_assoc, List.singleton_append, Prod.mk.injEq]
    exact ⟨trivial, by omega⟩
  · have e : y.getD i 0 = 34 := byte_eq.1 hc
    rw [hd, e, qG_cons, if_pos rfl]
    simp only [Option.map_some, List.append_nil]
    refine ⟨trivial, ?_⟩
    rw [iadd64 (by omega) (by omega)]
    omega
  · rw [List.drop_eq_nil_of_le (by omega)]
    exact ⟨rfl, rfl⟩
theorem quoOk (hi : Ok idxC) : Ok quoC := okW quoV_eq (signOk hi) quoH
theorem plaH (y : By) (hy : plaC.pre y) : plaVC y := by
  have hy : y.length ≤ 2000 := hy
  unfold plaVC
  simp only [Rfs_eq, Bth_eq, and_true, ile_t, ile_f, ilt_t, ilt_f, ieq_t, ieq_f, Bool.not_eq_true', Bool.not_eq_false', slen_eq, sat_nat]
  refine ⟨⟨0, rfl, ⟨by omega, by simp⟩⟩, fun i hx => ?_⟩
  obtain ⟨h1, h2⟩ := hx.out
  rw [h2]
  have bad : i < y.length → isPl (y.getD i 0) = false → (i : Int) = ((i + plainF (y.drop i) : Nat) : Int) := fun hi hc => by
    rw [drop_cons 0 hi]
    unfold plainF
    rw [hc]; rfl
  refine ⟨fun hi => ⟨by omega, hi, fun h3 => ⟨by omega, hi, fun h4 => ⟨by omega, hi, fun h5 => ?_, fun h5 => bad (by omega) ?_⟩, fun h4 => bad (by omega) ?_⟩, fun h3 => bad (by omega) ?_⟩, fun hi => ?_⟩
  · refine ⟨i + 1, iadd64 (by omega) (by omega), ⟨⟨by omega, ?_⟩, by omega⟩⟩
    rw [drop_cons 0 (show i < y.length by omega)]
    have e : isPl (y.getD i 0) = true := by
      unfold isPl
      rw [decide_eq_true (show 33 ≤ (y.getD i 0).toNat by omega), decide_eq_true (show (y.getD i 0).toNat ≤ 126 by omega), decide_eq_true (show y.getD i 0 ≠ 34 from fun e => h5 (by rw [e]; rfl))]
      rfl
    rw [show plainF (y.getD i 0 :: y.drop (i + 1)) = bif isPl (y.getD i 0) then plainF (y.drop (i + 1)) + 1 else 0 from rfl, e]
    simp only [cond_true]
    omega
  · unfold isPl
    rw [show y.getD i 0 = 34 from byte_eq.1 h5]; rfl
  · unfold isPl
    rw [decide_eq_false (show ¬ (y.getD i 0).toNat ≤ 126 by omega)]; simp
  · unfold isPl
    rw [decide_eq_false (show ¬ 33 ≤ (y.getD i 0).toNat by omega)]; rfl
  · rw [List.drop_eq_nil_of_le (by omega)]; simp [plainF]
theorem plaOk : Ok plaC := okW plaV_eq trivial plaH
theorem preF_isQ (s : By) : preF s [34] = isQ s := by
  unfold preF isQ
  cases s with
  | nil => rfl
  | cons c t => simp
theorem isQ_sat (s : By) (h : s ≠ []) : ieq (sat s 0) 34 = isQ s := by
  cases s with
  | nil => exact absurd rfl h
  | cons c t =>
    unfold ieq isQ
    rw [show sat (c :: t) 0 = (c.toNat : Int) from sat_nat _ 0]
    simp only [List.head?_cons, Option.some.injEq]
    exact decide_eq_decide.2 (byte_eq (d := 34))
theorem wG_eq (s : By) : wG s = if (wordF s).2 = 0 then none else match s.drop (wordF s).2 with
    | [] => some [((wordF s).1, isQ s)]
    | c :: t => if c = 32 then (wG t).map fun r => ((wordF s).1, isQ s) :: r else none := by
  unfold wG
  rw [wGo]
  by_cases h0 : (wordF s).2 = 0
  · rw [if_pos h0, if_pos h0]
  · rw [if_neg h0, if_neg h0]
    cases hd : s.drop (wordF s).2 with
    | nil => rfl
    | cons c t =>
      have hw := wordF_le s
      have : (s.drop (wordF s).2).length = t.length + 1 := by rw [hd]; rfl
      rw [List.length_drop] at this
      simp only
      rw [wGo_fuel s.length (t.length + 1) t (by omega) (by omega)]
/-- a word more -/
theorem wor_step {y s : By} {out : List Wd} (h : wordsM y = (wG s).map (out ++ ·)) (h0 : (wordF s).2 ≠ 0) :
    (s.drop (wordF s).2 = [] → wordsM y = some (out ++ [((wordF s).1, isQ s)])) ∧ (∀ c t, s.drop (wordF s).2 = c :: t → (c = 32 → wordsM y = (wG t).map ((out ++ [((wordF s).1, isQ s)]) ++ ·)) ∧ (c ≠ 32 → wordsM y = none)) := by
  rw [h, wG_eq, if_neg h0]
  refine ⟨fun e => by rw [e]; rfl, fun c t e => ?_⟩
  rw [e]
  refine ⟨fun hc => ?_, fun hc => ?_⟩
  · simp only
    rw [if_pos hc, Option.map_map]
    congr 1
    funext r
    simp [Function.comp]
  · simp only
    rw [if_neg hc]; rfl
theorem wor_none {y s : By} {out : List Wd} (h : wordsM y = (wG s).map (out ++ ·)) (h0 : (wordF s).2 = 0) : wordsM y = none := by
  rw [h, wG_eq, if_pos h0]; rfl
theorem seq_f {a b : By} : seq a b = false ↔ a ≠ b := by simp [seq]
theorem wor_end {y : By} {l : List Wd} (h : wordsM y = some l) : l = wordsF y ∧ true = wordsE y := by
  unfold wordsF wordsE
  rw [h]
  exact ⟨rfl, rfl⟩
theorem wor_bad {y : By} (h : wordsM y = none) : [] = wordsF y ∧ false = wordsE y := by
  unfold wordsF wordsE
  rw [h]
  exact ⟨rfl, rfl⟩
/-- behind a word -/
theorem wor_tail {y s : By} {out : List Wd} {x : By} {n : Nat} {q : Bool} (hl : s.length + out.length ≤ y.length) (h : wordsM y = (wG s).map (out ++ ·)) (hx : (wordF s).1 = x) (hn : (wordF s).2 = n) (hq : isQ s = q) (h0 : n ≠ 0) :
    (s.drop n = [] → out ++ [(x, q)] = wordsF y ∧ true = wordsE y) ∧
    (s.drop n ≠ [] → 0 < ((s.drop n).length : Int) ∧ (sat (s.drop n) 0 ≠ 32 → [] = wordsF y ∧ false = wordsE y) ∧
      (sat (s.drop n) 0 = 32 → 1 ≤ ((s.drop n).length : Int) ∧ ∃ z : By × List Wd, ldrop (s.drop n) 1 = z.1 ∧ out ++ [(x, q)] = z.2 ∧ Iv ((z.1.length + z.2.length ≤ y.length ∧ wordsM y = (wG z.1).map (z.2 ++ ·)) ∧ z.1.length < s.length))) := by
  subst hx hn hq
  obtain ⟨k1, k2⟩ := wor_step h h0
  have hw := wordF_le s
  refine ⟨fun e => wor_end (k1 e), fun e => ?_⟩
  cases hd : s.drop (wordF s).2 with
  | nil => exact absurd hd e
  | cons c t =>
    have hlen : (s.drop (wordF s).2).length = t.length + 1 := by rw [hd]; rfl
    rw [List.length_drop] at hlen
    obtain ⟨k3, k4⟩ := k2 c t hd
    have hs : sat (c :: t) 0 = (c.toNat : Int) := sat_nat _ 0
    refine ⟨by simp, fun hc => wor_bad (k4 fun e => hc (by rw [hs, e]; rfl)), fun hc => ⟨by rw [List.length_cons]; omega, (t, out ++ [((wordF s).1, isQ s)]), rfl, rfl, ⟨⟨by simp; omega, k3 (byte_eq.1 (hs.symm.trans hc))⟩, by simp only; omega⟩⟩⟩
theorem worH (y : By) (hy : worC.pre y) : worVC y := by
  have hy : y.length ≤ 2000 := hy
  unfold worVC
  simp only [Rfs_eq, Tt_eq, Bth_eq, and_true, ile_t, ile_f, ilt_t, ilt_f, ieq_t, ieq_f, seq_t, seq_f, Bool.not_eq_true', Bool.not_eq_false', slen_eq, llen_eq, lcat_eq, fits_t, ldrop_nat, ltake_nat, preF_isQ]
  refine ⟨⟨(y, []), rfl, rfl, ⟨by simp, by show wordsM y = (wordsM y).map _; simp⟩⟩, fun x hx => ?_⟩
  obtain ⟨s, out⟩ := x
  obtain ⟨h1, h2⟩ := hx.out
  simp only at h1 h2 ⊢
  have hw := wordF_le s
  refine ⟨⟨trivial⟩, fun hq => ?_, fun hq => ?_⟩
  · have hs : s ≠ [] := fun e => by rw [e] at hq; cases hq
    have hp := List.length_pos_iff.2 hs
    have e : wordF s = quotF s := by unfold wordF; rw [hq]; rfl
    rw [← e]
    refine ⟨⟨by omega, by omega⟩, fun h0 => wor_bad (wor_none h2 (by omega)), fun h0 => ⟨by omega, by simp; omega, by omega, by omega, ?_⟩⟩
    have h0' : (wordF s).2 ≠ 0 := by omega
    rw [isQ_sat s hs]
    exact wor_tail h1 h2 rfl rfl rfl h0'
  · have e : wordF s = (s.take (plainF s), plainF s) := by unfold wordF; rw [hq]; rfl
    have e2 : (wordF s).2 = plainF s := by rw [e]
    have e1 : (wordF s).1 = s.take (plainF s) := by rw [e]
    refine ⟨⟨by omega⟩, fun h0 => ⟨by omega, by omega, fun h3 => by omega, fun h3 => ?_⟩, fun h0 => ⟨fun h3 => wor_bad (wor_none h2 (by omega)), fun h3 => by omega⟩⟩
    have hs : s ≠ [] := fun e => by rw [e] at h0; simp [plainF] at h0
    have hp := List.length_pos_iff.2 hs
    refine ⟨by omega, by simp; omega, by omega, by omega, ?_⟩
    rw [isQ_sat s hs]
    exact wor_tail h1 h2 e1 e2 rfl (by omega)
theorem worOk (hi : Ok idxC) : Ok worC := okW worV_eq ⟨hprOk, quoOk hi, plaOk⟩ worH
theorem numH (y : Wd) (hy : numC.pre y) : numVC y := by
  have hy : y.1.length ≤ 2000 := hy
  unfold numVC
  simp only [Rfs_eq, Bth_eq, and_true, ile_t, ile_f, Bool.not_eq_true', Bool.not_eq_false']
  have hp := num_prog y.1
  have hn : numW y = (numOk y.1 && !y.2) := rfl
  refine ⟨fun h => ⟨⟨hy, h.symm⟩, fun hr => ⟨fun h1 => ⟨fun h2 => ⟨fun h3 => ⟨⟨hr⟩, ?_⟩, fun h3 => ?_⟩, fun h2 => ?_⟩, fun h1 => ?_⟩⟩, fun h => ⟨⟨hy, h.symm⟩, fun _ => ?_⟩⟩
  · rw [hn, hp, h, h1, decide_eq_true h2, decide_eq_true h3]; simp [seq]
  · rw [hn, hp, decide_eq_false (show ¬ atoiN y.1 ≤ 4611686018427387904 by omega)]; simp
  · rw [hn, hp, decide_eq_false (show ¬ 0 ≤ atoiN y.1 by omega)]; simp
  · rw [hn, h1]; simp
  · rw [hn, hp, h]; simp
theorem numOk' (ha : Ok atoC) (hi : Ok itoC) : Ok numC := okW numV_eq ⟨ha, hi⟩ numH
end Go.Proofs.YtjdehneddakpnaaGreatDoor.sx
namespace Go.Proofs.YtjdehneddakpnaaGreatDoor.sx
open Go Go.RowKit
set_option maxRecDepth 100000
theorem gt_nat {α : Type} (d : α) (l : List α) (x : Nat) : gt d l (Int.toNat (x : Int)) = l.getD x d := by simp [gt]
theorem ieq_b (c d : UInt8) : ieq (c.toNat : Int) (d.toNat : Int) = decide (c = d) := decide_eq_decide.2 byte_eq
theorem shortW_drop {l : List Wd} {n : Nat} (h : shortW l) : shortW (l.drop n) := fun w hw => h w (List.mem_of_mem_drop hw)
theorem shortW_take {l : List Wd} {n : Nat} (h : shortW l) : shortW (l.take n) := fun w hw => h w (List.mem_of_mem_take hw)
theorem shortW_get {l : List Wd} {n : Nat} {d : Wd} (h : shortW l) (hn : n < l.length) : (l.getD n d).1.length ≤ 2000 := by
  have : l.getD n d = l[n] := by simp [hn]
  rw [this]
  exact h _ (List.getElem_mem hn)
theorem areF_len : ∀ (l : List Wd) (k : By), l.length ≠ k.length → areF l k = false
  | [], [], h => absurd rfl h
  | [], _ :: _, _ => rfl
  | _ :: _, [], _ => rfl
  | w :: l, k :: ks, h => by
    show (isK k w && areF l ks) = false
    rw [areF_len l ks (by simpa using h), Bool.and_false]
theorem areH (y : List Wd × By) (hy : areC.pre y) : areVC y := by
  obtain ⟨l, k⟩ := y
  have hy : shortW l := hy
  unfold areVC
  simp only [Rfs_eq, Bth_eq, and_true, ile_t, ile_f, ilt_t, ilt_f, ieq_t, ieq_f, Bool.not_eq_true', Bool.not_eq_false', slen_eq, llen_eq, sat_nat, gt_nat]
  refine fun hm => ⟨fun h => (areF_len l k (by omega)).symm, fun h => ⟨⟨0, rfl, ⟨by omega, by omega, by simp⟩⟩, fun x hx => ?_⟩⟩
  obtain ⟨h1, h2, h3⟩ := hx.out
  have hk : k.length = l.length := h2
  refine ⟨fun h4 => ?_, fun h4 => ?_⟩
  · have hx1 : x < l.length := by omega
    have e : areF l k = (isK (k.getD x 0) (l.getD x ([], false)) && areF (l.drop (x + 1)) (k.drop (x + 1))) := by
      rw [h3, drop_cons ([], false) hx1, drop_cons 0 (show x < k.length by omega)]; rfl
    have hw := shortW_get (d := ([], false)) hy hx1
    generalize l.getD x ([], false) = w at *
    generalize k.getD x 0 = c at *
    have e1 : ieq (c.toNat : Int) 113 = decide (c = 113) := ieq_b c 113
    have nx : areF l k = areF (l.drop (x + 1)) (k.drop (x + 1)) → ∃ z : Nat, iadd .i64 (x : Int) 1 = (z : Int) ∧ Iv ((z ≤ l.length ∧ k.length = l.length ∧ areF l k = areF (l.drop z) (k.drop z)) ∧ l.length - z < l.length - x) := fun h =>
      ⟨x + 1, iadd64 (by omega) (by omega), ⟨⟨by omega, hk, h⟩, by omega⟩⟩
    refine ⟨by omega, h4, ⟨hw⟩, by omega, by omega, fun h5 => ?_, fun h5 => ⟨by omega, by omega, fun h6 => ⟨fun h7 => ?_, fun h7 => nx ?_⟩, fun h6 => nx ?_⟩⟩
    · rw [e1] at h5
      have : (decide (c = 113) == w.2) = false := h5
      rw [e, isK, this]; rfl
    · rw [e, isK, show numW w = false from h7]
      have : decide (c ≠ 110) = false := decide_eq_false (fun h => h (byte_eq.1 h6))
      rw [this]; simp
    · rw [e1] at h5
      have h5 : (decide (c = 113) == w.2) = true := h5
      rw [e, isK, h5, show numW w = true from h7]; simp
    · rw [e1] at h5
      have h5 : (decide (c = 113) == w.2) = true := h5
      have : decide (c ≠ 110) = true := decide_eq_true (fun h => h6 (by rw [h]; rfl))
      rw [e, isK, h5, this]; simp
  · rw [h3, List.drop_eq_nil_of_le (by omega), List.drop_eq_nil_of_le (by omega)]; rfl
theorem areOk (hn : Ok numC) : Ok areC := okW areV_eq hn areH
theorem are_pq (a b : Wd) : areF [a, b] [112, 113] = (!a.2 && b.2) := by
  cases ha : a.2 <;> cases hb : b.2 <;> simp [areF, isK, ha, hb] <;> rfl
theorem irem2 (n : Nat) : irem (n : Int) 2 = ((n % 2 : Nat) : Int) := by
  unfold irem
  rw [Int.tmod_eq_emod_of_nonneg (by omega)]; rfl
theorem pair_at {l : List Wd} {i : Nat} (h : i + 2 ≤ l.length) : (l.take (i + 2)).drop i = [l.getD i ([], false), l.getD (i + 1) ([], false)] ∧ l.drop i = l.getD i ([], false) :: l.getD (i + 1) ([], false) :: l.drop (i + 2) := by
  have e : l.drop i = l.getD i ([], false) :: l.getD (i + 1) ([], false) :: l.drop (i + 2) := by
    rw [drop_cons ([], false) (show i < l.length by omega), drop_cons ([], false) (show i + 1 < l.length by omega)]
  refine ⟨?_, e⟩
  rw [List.drop_take, e, show i + 2 - i = 2 by omega]; rfl
theorem setH (y : List Wd) (hy : setC.pre y) : setVC y := by
  obtain ⟨y1, y2⟩ : shortW y ∧ y.length ≤ 10000 := hy
  unfold setVC
  simp only [Rfs_eq, Tt_eq, Bth_eq, and_true, ieq_t, ieq_f, Bool.not_eq_true', Bool.not_eq_false', llen_eq, irem2]
  refine ⟨fun h => ?_, fun h => ⟨⟨(0, []), rfl, rfl, ⟨by simp⟩⟩, fun x hx => ?_⟩⟩
  · have : setF y = ([], [], false) := by unfold setF; rw [if_neg (by omega)]
    rw [this]; exact ⟨rfl, rfl, rfl⟩
  · obtain ⟨i, acc⟩ := x
    obtain ⟨h1, h2, h3, h4⟩ := hx.out
    have hS : setF y = setGo acc (y.drop i) := by unfold setF; rw [if_pos (by omega)]; exact h4
    simp only at h1 h2 h3 h4 ⊢
    have e1 : iadd .i64 (i : Int) 1 = ((i + 1 : Nat) : Int) := iadd64 (by omega) (by omega)
    have e2 : iadd .i64 (i : Int) 2 = ((i + 2 : Nat) : Int) := iadd64 (by omega) (by omega)
    simp only [e1, e2, ltake_nat, ldrop_nat, gt_nat, ile_t, ilt_t, ilt_f, lcat_eq, fits_t, seq_t, seq_f]
    refine ⟨fun h5 => ?_, fun h5 => ?_⟩
    · have hi : i + 2 ≤ y.length := by omega
      obtain ⟨p1, p2⟩ := pair_at hi
      have hw := shortW_drop (n := i) (shortW_take (n := i + 2) y1)
      rw [p1] at hw ⊢
      rw [p2] at hS
      rw [are_pq]
      generalize hga : y.getD i ([], false) = a at *
      generalize hgb : y.getD (i + 1) ([], false) = b at *
      refine ⟨by omega, by omega, by omega, by simp; omega, ⟨hw⟩, fun h6 => ?_, fun h6 => ⟨fun h7 => ⟨by omega, h5, fun h8 => ⟨by omega, by omega, ?_⟩, fun h8 => ⟨by omega, h5, by omega, by omega, by simp; omega, (i + 2, acc ++ [(a.1, b.1)]), rfl, rfl, ⟨⟨by omega, by omega, by simp; omega, ?_⟩, by omega⟩⟩⟩,
        fun h7 => ⟨by omega, h5, by omega, by omega, by simp; omega, (i + 2, acc ++ [(a.1, b.1)]), rfl, rfl, ⟨⟨by omega, by omega, by simp; omega, ?_⟩, by omega⟩⟩⟩⟩
      · rw [hS, setGo, h6]; exact ⟨rfl, rfl, rfl⟩
      · have ht : y.drop (i + 2) = [] := List.drop_eq_nil_of_le (by omega)
        rw [hS, setGo, h6, ht]
        simp only [cond_true]
        rw [if_pos ⟨trivial, h8⟩]
        refine ⟨rfl, rfl, ?_⟩
        by_cases hb : b.1 = [] <;> simp [hb, seq]
      · rw [h4, p2, setGo, h6]
        simp only [cond_true]
        rw [if_neg (fun hq => h8 hq.2)]
      · rw [h4, p2, setGo, h6]
        simp only [cond_true]
        rw [if_neg (fun hq => h7 (by have := List.drop_eq_nil_iff.1 hq.1; omega))]
    · rw [hS, List.drop_eq_nil_of_le (by omega)]; exact ⟨rfl, rfl, rfl⟩
theorem setOk (hn : Ok numC) : Ok setC := okW setV_eq (areOk hn) setH
theorem stepF_create {l : List Wd} (h : w0 l = kCreate) : stepF l = if areF (l.drop 1) [112] = true then some { sv0 with kind := 1, name := (wd l 1).1 } else none := by unfold stepF; rw [h]; rfl
theorem stepF_remove {l : List Wd} (h : w0 l = kRemove) : stepF l = if areF (l.drop 1) [112] = true then some { sv0 with kind := 5, name := (wd l 1).1 } else none := by unfold stepF; rw [h]; rfl
theorem stepF_append {l : List Wd} (h : w0 l = kAppend) : stepF l = if areF (l.drop 1) [112, 113] = true then some { sv0 with kind := 2, name := (wd l 1).1, data := (wd l 2).1 } else none := by unfold stepF; rw [h]; rfl
theorem stepF_rename {l : List Wd} (h : w0 l = kRename) : stepF l = if areF (l.drop 1) [112, 112] = true then some { sv0 with kind := 3, name := (wd l 1).1, to := (wd l 2).1 } else none := by unfold stepF; rw [h]; rfl
theorem stepF_cut {l : List Wd} (h : w0 l = kCut) : stepF l = if areF (l.drop 1) [112, 110] = true then some { sv0 with kind := 4, name := (wd l 1).1, n := valF 0 (wd l 2).1 } else none := by unfold stepF; rw [h]; rfl
theorem stepF_poll {l : List Wd} (h : w0 l = kPoll) : stepF l = if areF (l.drop 1) [] = true then some { sv0 with kind := 6 } else none := by unfold stepF; rw [h]; rfl
theorem stepF_open {l : List Wd} (h : w0 l = kOpen) : stepF l = if areF (l.drop 1) [] = true then some { sv0 with kind := 10 } else none := by unfold stepF; rw [h]; rfl
theorem stepF_query {l : List Wd} (h : w0 l = kQuery) : stepF l = if areF (l.drop 1) [110] = true then some { sv0 with kind := 8, n := valF 0 (wd l 1).1 } else none := by unfold stepF; rw [h]; rfl
theorem stepF_crash {l : List Wd} (h : w0 l = kCrash) : stepF l = if areF (l.drop 1) [110] = true then some { sv0 with kind := 9, n := valF 0 (wd l 1).1 } else none := by unfold stepF; rw [h]; rfl
theorem stepF_load {l : List Wd} (h : w0 l = kLoad) : stepF l = if (setF (l.drop 1)).2.2 = true then some { sv0 with kind := 7, rules := (setF (l.drop 1)).1, cont := (setF (l.drop 1)).2.1 } else none := by unfold stepF; rw [h]; rfl
theorem stepF_else {l : List Wd} (h1 : w0 l ≠ kCreate) (h2 : w0 l ≠ kRemove) (h3 : w0 l ≠ kAppend) (h4 : w0 l ≠ kRename) (h5 : w0 l ≠ kCut) (h6 : w0 l ≠ kPoll) (h7 : w0 l ≠ kOpen) (h8 : w0 l ≠ kQuery) (h9 : w0 l ≠ kCrash) (h10 : w0 l ≠ kLoad) : stepF l = none := by
  unfold stepF
  simp only
  rw [if_neg h1, if_neg h2, if_neg h3, if_neg h4, if_neg h5, if_neg h6, if_neg h7, if_neg h8, if_neg h9, if_neg h10]
theorem are_n1 {a : Wd} {r : List Wd} (h : areF r [110] = true) : atoiN (wd (a :: r) 1).1 = valF 0 (wd (a :: r) 1).1 := by
  cases r with
  | nil => cases h
  | cons w t =>
    have h : (isK 110 w && areF t []) = true := h
    simp [isK, numW] at h
    exact num_atoiN h.1.2.1
theorem are_n2 {a : Wd} {r : List Wd} (h : areF r [112, 110] = true) : atoiN (wd (a :: r) 2).1 = valF 0 (wd (a :: r) 2).1 := by
  cases r with
  | nil => cases h
  | cons v t =>
    have h : (isK 112 v && areF t [110]) = true := h
    exact are_n1 (a := v) (Bool.and_eq_true _ _ ▸ h).2
theorem stepH (y : List Wd) (hy : stepC.pre y) : stepVC y := by
  obtain ⟨y1, y2, y3⟩ : shortW y ∧ y.length ≤ 10000 ∧ 1 ≤ y.length := hy
  cases y with
  | nil => simp at y3
  | cons a r =>
    have hr : ldrop (a :: r) (1 : Int) = r := rfl
    have h0 : gt (([] : By), false) (a :: r) 0 = a := rfl
    have h6 : gt (([] : By), false) r 0 = wd (a :: r) 1 := rfl
    have h7 : gt (([] : By), false) r 1 = wd (a :: r) 2 := rfl
    have hw : w0 (a :: r) = a.1 := rfl
    have hd : (a :: r).drop 1 = r := rfl
    have hwd : wd (a :: r) 0 = a := rfl
    have yr : shortW r := fun w hw => y1 w (List.mem_cons_of_mem _ hw)
    have yl : r.length ≤ 10000 := by simp at y2; omega
    have sn : ∀ n : Nat, 1 ≤ n → n < (a :: r).length → (wd (a :: r) n).1.length ≤ 2000 := fun n _ h => shortW_get y1 h
    have al : ∀ k : By, areF r k = true → r.length = k.length := fun k h => Decidable.byContradiction fun hn => by rw [areF_len r k hn] at h; cases h
    unfold stepVC
    simp only [hr, h0, h6, h7, Rfs_eq, Tt_eq, Bth_eq, and_true, llen_eq, ile_t, ilt_t, List.length_cons]
    refine ⟨by omega, fun hq => ?_, fun hq => ⟨by omega, by omega, ?_⟩⟩
    · have e1 : stepV0 (a :: r) = sv0 := by unfold stepV0; rw [hwd, if_pos hq]
      have e2 : stepE (a :: r) = false := by unfold stepE; rw [hwd, hq]; rfl
      rw [e1, e2]
      exact ⟨rfl, rfl, rfl, rfl, rfl, rfl, rfl, rfl⟩
    · have e1 : w0 (a :: r) ≠ kLoad → stepV0 (a :: r) = (stepF (a :: r)).getD sv0 := fun h => by unfold stepV0; rw [hwd, if_neg (by rw [hq]; simp), if_neg h]
      have e2 : stepE (a :: r) = (stepF (a :: r)).isSome := by unfold stepE; rw [hwd, hq]; rfl
      by_cases k1 : a.1 = kCreate
      · have e := stepF_create (hw.trans k1)
        have e1 := e1 (by rw [hw, k1]; decide)
        rw [e2, e1, e, hd]
        cases hb : areF r [112] with
        | true =>
          have hl := al _ hb
          simp only [List.length_cons, List.length_nil] at hl
          simp (decide := true) [k1, seq, kCreate, hb, sv0]
          exact ⟨⟨yr⟩, by omega⟩
        | false =>
          simp (decide := true) [k1, seq, kCreate, hb, sv0]
          exact ⟨yr⟩
      by_cases k2 : a.1 = kRemove
      · have e := stepF_remove (hw.trans k2)
        have e1 := e1 (by rw [hw, k2]; decide)
        rw [e2, e1, e, hd]
        cases hb : areF r [112] with
        | true =>
          have hl := al _ hb
          simp only [List.length_cons, List.length_nil] at hl
          simp (decide := true) [k2, seq, kRemove, hb, sv0]
          exact ⟨⟨yr⟩, by omega⟩
        | false =>
          simp (decide := true) [k2, seq, kRemove, hb, sv0]
          exact ⟨yr⟩
      by_cases k3 : a.1 = kAppend
      · have e := stepF_append (hw.trans k3)
        have e1 := e1 (by rw [hw, k3]; decide)
        rw [e2, e1, e, hd]
        cases hb : areF r [112, 113] with
        | true =>
          have hl := al _ hb
          simp only [List.length_cons, List.length_nil] at hl
          simp (decide := true) [k3, seq, kAppend, hb, sv0]
          exact ⟨⟨yr⟩, by omega, by omega⟩
        | false =>
          simp (decide := true) [k3, seq, kAppend, hb, sv0]
          exact ⟨yr⟩
      by_cases k4 : a.1 = kRename
      · have e := stepF_rename (hw.trans k4)
        have e1 := e1 (by rw [hw, k4]; decide)
        rw [e2, e1, e, hd]
        cases hb : areF r [112, 112] with
        | true =>
          have hl := al _ hb
          simp only [List.length_cons, List.length_nil] at hl
          simp (decide := true) [k4, seq, kRename, hb, sv0]
          exact ⟨⟨yr⟩, by omega, by omega⟩
        | false =>
          simp (decide := true) [k4, seq, kRename, hb, sv0]
          exact ⟨yr⟩
      by_cases k5 : a.1 = kCut
      · have e := stepF_cut (hw.trans k5)
        have e1 := e1 (by rw [hw, k5]; decide)
        rw [e2, e1, e, hd]
        cases hb : areF r [112, 110] with
        | true =>
          have hl := al _ hb
          simp only [List.length_cons, List.length_nil] at hl
          have hn := are_n2 (a := a) hb
          have hm := sn 2 (by omega) (by rw [List.length_cons]; omega)
          simp (decide := true) [k5, seq, kCut, hb, sv0, hn]
          exact ⟨⟨yr⟩, by omega, ⟨hm⟩, by omega⟩
        | false =>
          simp (decide := true) [k5, seq, kCut, hb, sv0]
          exact ⟨yr⟩
      by_cases k6 : a.1 = kPoll
      · have e := stepF_poll (hw.trans k6)
        have e1 := e1 (by rw [hw, k6]; decide)
        rw [e2, e1, e, hd]
        cases hb : areF r [] with
        | true =>
          have hl := al _ hb
          simp only [List.length_cons, List.length_nil] at hl
          simp (decide := true) [k6, seq, kPoll, hb, sv0]
          exact ⟨yr⟩
        | false =>
          simp (decide := true) [k6, seq, kPoll, hb, sv0]
          exact ⟨yr⟩
      by_cases k7 : a.1 = kOpen
      · have e := stepF_open (hw.trans k7)
        have e1 := e1 (by rw [hw, k7]; decide)
        rw [e2, e1, e, hd]
        cases hb : areF r [] with
        | true =>
          have hl := al _ hb
          simp only [List.length_cons, List.length_nil] at hl
          simp (decide := true) [k7, seq, kOpen, hb, sv0]
          exact ⟨yr⟩
        | false =>
          simp (decide := true) [k7, seq, kOpen, hb, sv0]
          exact ⟨yr⟩
      by_cases k8 : a.1 = kQuery
      · have e := stepF_query (hw.trans k8)
        have e1 := e1 (by rw [hw, k8]; decide)
        rw [e2, e1, e, hd]
        cases hb : areF r [110] with
        | true =>
          have hl := al _ hb
          simp only [List.length_cons, List.length_nil] at hl
          have hn := are_n1 (a := a) hb
          have hm := sn 1 (by omega) (by rw [List.length_cons]; omega)
          simp (decide := true) [k8, seq, kQuery, hb, sv0, hn]
          exact ⟨⟨yr⟩, by omega, ⟨hm⟩⟩
        | false =>
          simp (decide := true) [k8, seq, kQuery, hb, sv0]
          exact ⟨yr⟩
      by_cases k9 : a.1 = kCrash
      · have e := stepF_crash (hw.trans k9)
        have e1 := e1 (by rw [hw, k9]; decide)
        rw [e2, e1, e, hd]
        cases hb : areF r [110] with
        | true =>
          have hl := al _ hb
          simp only [List.length_cons, List.length_nil] at hl
          have hn := are_n1 (a := a) hb
          have hm := sn 1 (by omega) (by rw [List.length_cons]; omega)
          simp (decide := true) [k9, seq, kCrash, hb, sv0, hn]
          exact ⟨⟨yr⟩, by omega, ⟨hm⟩⟩
        | false =>
          simp (decide := true) [k9, seq, kCrash, hb, sv0]
          exact ⟨yr⟩
      by_cases k10 : a.1 = kLoad
      · have e := stepF_load (hw.trans k10)
        have e3 : stepV0 (a :: r) = { sv0 with kind := 7, rules := (setF r).1, cont := (setF r).2.1 } := by unfold stepV0; rw [hwd, if_neg (by rw [hq]; simp), if_pos (hw.trans k10)]; rfl
        have e4 : stepE (a :: r) = (setF r).2.2 := by
          rw [e2, e, hd]
          cases (setF r).2.2 <;> rfl
        rw [e3, e4]
        simp (decide := true) [k10, seq, kLoad, sv0]
        exact ⟨yr, yl⟩
      · have e := stepF_else (l := a :: r) k1 k2 k3 k4 k5 k6 k7 k8 k9 k10
        have e1 := e1 k10
        rw [e2, e1, e]
        unfold kCreate kRemove kAppend kRename kCut kPoll kOpen kQuery kCrash kLoad at *
        simp (decide := true) [seq, k1, k2, k3, k4, k5, k6, k7, k8, k9, k10, sv0]
theorem stepOk (hn : Ok numC) : Ok stepC := okW stepV_eq ⟨areOk hn, hn, setOk hn⟩ stepH
theorem stepE_some {l : List Wd} (h : stepE l = true) : (wd l 0).2 = false ∧ stepF l = some (stepV0 l) := by
  unfold stepE at h
  rw [Bool.and_eq_true, Bool.not_eq_true'] at h
  obtain ⟨h1, h2⟩ := h
  refine ⟨h1, ?_⟩
  unfold stepV0
  rw [if_neg (by rw [h1]; simp)]
  by_cases hk : w0 l = kLoad
  · rw [if_pos hk]
    have e := stepF_load hk
    rw [e] at h2 ⊢
    by_cases hs : (setF (l.drop 1)).2.2 = true
    · rw [if_pos hs]
    · rw [if_neg hs] at h2; cases h2
  · rw [if_neg hk]
    obtain ⟨v, hv⟩ := Option.isSome_iff_exists.1 h2
    rw [hv]; rfl
theorem wsum_get : ∀ {l : List Wd} {w : Wd}, w ∈ l → w.1.length ≤ wsum l
  | a :: l, w, h => by
    have e : wsum (a :: l) = a.1.length + wsum l := rfl
    rw [e]
    rcases List.mem_cons.1 h with rfl | h
    · omega
    · have := wsum_get h; omega
theorem words_short {y : By} (hl : y.length ≤ 2000) (h : wordsE y = true) : wordsM y = some (wordsF y) ∧ shortW (wordsF y) ∧ (wordsF y).length ≤ 10000 ∧ 1 ≤ (wordsF y).length := by
  unfold wordsE at h
  obtain ⟨l, e⟩ := Option.isSome_iff_exists.1 h
  have hs := wGo_sum _ _ _ e
  have hf : wordsF y = l := by unfold wordsF; rw [e]; rfl
  rw [hf]
  have := List.length_pos_iff.2 hs.1
  have hb := hs.2
  exact ⟨e, fun w hw => by have := wsum_get hw; omega, by omega, by omega⟩
/-- which step, and which number -/
theorem parse_cases (y : By) : (2000 < y.length ∧ parseF y = sv0 ∧ parseN y = 2) ∨ (y.length ≤ 2000 ∧ (wordsE y = false ∨ stepE (wordsF y) = false) ∧ parseF y = sv0 ∧ parseN y = 4) ∨
    (y.length ≤ 2000 ∧ wordsE y = true ∧ stepE (wordsF y) = true ∧ parseM y = some (stepV0 (wordsF y)) ∧ parseF y = stepV0 (wordsF y) ∧ parseN y = 0) := by
  by_cases hl : 2000 < y.length
  · have e : parseM y = none := by unfold parseM; rw [if_pos hl]
    refine .inl ⟨hl, by unfold parseF; rw [e]; rfl, by unfold parseN; rw [e, if_pos hl]; rfl⟩
  · right
    have none4 : parseM y = none → parseF y = sv0 ∧ parseN y = 4 := fun e => ⟨by unfold parseF; rw [e]; rfl, by unfold parseN; rw [e, if_neg hl]; rfl⟩
    cases hw : wordsE y with
    | false =>
      refine .inl ⟨by omega, .inl rfl, none4 ?_⟩
      unfold parseM
      rw [if_neg hl]
      unfold wordsE at hw
      cases e : wordsM y with
      | none => rfl
      | some l => rw [e] at hw; cases hw
    | true =>
      obtain ⟨e, _⟩ := words_short (by omega) hw
      have ep : parseM y = if (wd (wordsF y) 0).2 = true then none else stepF (wordsF y) := by
        unfold parseM
        rw [if_neg hl, e]
      cases hs : stepE (wordsF y) with
      | false =>
        refine .inl ⟨by omega, .inr rfl, none4 ?_⟩
        rw [ep]
        unfold stepE at hs
        by_cases hq : (wd (wordsF y) 0).2 = true
        · rw [if_pos hq]
        · rw [if_neg hq]
          have hq : (wd (wordsF y) 0).2 = false := by simpa using hq
          rw [hq] at hs
          cases ho : stepF (wordsF y) with
          | none => rfl
          | some v => rw [ho] at hs; cases hs
      | true =>
        obtain ⟨h1, h2⟩ := stepE_some hs
        rw [if_neg (by rw [h1]; simp), h2] at ep
        exact .inr ⟨by omega, rfl, rfl, ep, by unfold parseF; rw [ep]; rfl, by unfold parseN; rw [ep]; rfl⟩
theorem parH (y : By) (_hy : parC.pre y) : parVC y := by
  unfold parVC
  simp only [Rfs_eq, Bth_eq, and_true, ilt_t, ilt_f, slen_eq]
  rcases parse_cases y with ⟨h1, h2, h3⟩ | ⟨h1, h2, h3, h4⟩ | ⟨h1, h2, h3, h4, h5, h6⟩
  · rw [h2, h3]
    exact ⟨fun _ => ⟨rfl, rfl, rfl, rfl, rfl, rfl, rfl, rfl⟩, fun h => by omega⟩
  · rw [h3, h4]
    refine ⟨fun h => by omega, fun _ => ⟨⟨h1⟩, fun hw => ⟨⟨(words_short h1 hw).2⟩, fun hs => ?_, fun _ => ⟨rfl, rfl, rfl, rfl, rfl, rfl, rfl, rfl⟩⟩, fun _ => ⟨rfl, rfl, rfl, rfl, rfl, rfl, rfl, rfl⟩⟩⟩
    rcases h2 with h2 | h2
    · rw [hw] at h2; cases h2
    · rw [hs] at h2; cases h2
  · rw [h5, h6]
    refine ⟨fun h => by omega, fun _ => ⟨⟨h1⟩, fun hw => ⟨⟨(words_short h1 hw).2⟩, fun _ => ⟨rfl, rfl, rfl, rfl, rfl, rfl, rfl, rfl⟩, fun hs => by rw [h3] at hs; cases hs⟩, fun hw => by rw [h2] at hw; cases hw⟩⟩
theorem parOk (hx : Ok idxC) (hn : Ok numC) : Ok parC := okW parV_eq ⟨worOk hx, stepOk hn⟩ parH
end Go.Proofs.YtjdehneddakpnaaGreatDoor.sx
