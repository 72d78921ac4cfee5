/- Steps of the program: the contracts hold. -/
import Derived.Test.YtjdehneddakpnaaGreatDoorCSxE
import Derived.Lib.LaidTab
import Derived.Lib.ItoaNum
import Derived.Test.YtjdehneddakpnaaGreatDoorProg
import Derived.KernelRfl
import Derived.Lib.AtoiAll
import Derived.Lib.ItoaMem
import Derived.Shelf.Small.Strs
import Derived.Shelf.LaysM
import Derived.Shelf.Strconv.Itoa3
import Derived.Shelf.LaysC
import Derived.Shelf.Strconv.AtoiAll
import Derived.Lib.Bytealg
import Derived.Lib.AtoiErrMem
import Derived.Lib.ItoaLen
set_option linter.all false
namespace Go.Proofs.YtjdehneddakpnaaGreatDoor.sx
open Go Go.RowKit
abbrev Wd := List UInt8 × Bool
abbrev Pat := List UInt8 × List UInt8
abbrev Told := Int × Int
abbrev Un := Unit
noncomputable section
structure Rec where
  ino : Int
  gen : Int
  pos : Int
  rule : List UInt8
  kind : Int
  c0 : Int
  c1 : Int
  c2 : Int
  c3 : Int
  c4 : Int
  c5 : Int
  c6 : Int
  c7 : Int
  c8 : Int
  c9 : Int
def El (c : Nat) : Type := match c with
  | 0 => UInt8
  | 1 => Wd
  | 2 => Pat
  | 3 => Int
  | 4 => Told
  | 5 => Rec
  | 6 => Un
  | _ => Unit
def szD (c : Nat) : Nat := match c with
  | 0 => 1
  | 1 => 2
  | 2 => 2
  | 3 => 1
  | 4 => 2
  | 5 => 15
  | 6 => 0
  | _ => 1
def encD (c : Nat) : El c → List (AV El) := match c with
  | 0 => fun (x : UInt8) => [.int .u8 x.toNat]
  | 1 => fun (x : Wd) => [.str x.1, .bool x.2]
  | 2 => fun (x : Pat) => [.str x.1, .str x.2]
  | 3 => fun (x : Int) => [.int .i64 x]
  | 4 => fun (x : Told) => [.int .i64 x.1, .int .i64 x.2]
  | 5 => fun (x : Rec) => [.int .i64 x.ino, .int .i64 x.gen, .int .i64 x.pos, .str x.rule, .int .i64 x.kind, .int .i64 x.c0, .int .i64 x.c1, .int .i64 x.c2, .int .i64 x.c3, .int .i64 x.c4, .int .i64 x.c5, .int .i64 x.c6, .int .i64 x.c7, .int .i64 x.c8, .int .i64 x.c9]
  | 6 => fun (x : Un) => []
  | _ => fun _ => [.int .i64 0]
def decI (k : IntKind) (v : AV El) : Option Int := match v with
  | .int k' n => oI (kEq k k') (some n)
  | .num k' n => oI (kEq k k') (some n)
  | _ => none
def decB (v : AV El) : Option Bool := match v with
  | .bool b => some b
  | .lit b => some b
  | _ => none
def decS (v : AV El) : Option (List UInt8) := match v with
  | .str s => some s
  | _ => none
def b8 (n : Int) : UInt8 := UInt8.ofNat n.toNat
def dec0 (l : List (AV El)) : Option (El 0) := match l with
  | [a0] => oB (decI .u8 a0) fun a0 => some (b8 a0)
  | _ => none
def dec1 (l : List (AV El)) : Option (El 1) := match l with
  | [a0, a1] => oB (decS a0) fun a0 => oB (decB a1) fun a1 => some (Prod.mk a0 a1)
  | _ => none
def dec2 (l : List (AV El)) : Option (El 2) := match l with
  | [a0, a1] => oB (decS a0) fun a0 => oB (decS a1) fun a1 => some (Prod.mk a0 a1)
  | _ => none
def dec3 (l : List (AV El)) : Option (El 3) := match l with
  | [a0] => oB (decI .i64 a0) fun a0 => some a0
  | _ => none
def dec4 (l : List (AV El)) : Option (El 4) := match l with
  | [a0, a1] => oB (decI .i64 a0) fun a0 => oB (decI .i64 a1) fun a1 => some (Prod.mk a0 a1)
  | _ => none
def dec5 (l : List (AV El)) : Option (El 5) := match l with
  | [a0, a1, a2, a3, a4, a5, a6, a7, a8, a9, a10, a11, a12, a13, a14] => oB (decI .i64 a0) fun a0 => oB (decI .i64 a1) fun a1 => oB (decI .i64 a2) fun a2 => oB (decS a3) fun a3 => oB (decI .i64 a4) fun a4 => oB (decI .i64 a5) fun a5 => oB (decI .i64 a6) fun a6 => oB (decI .i64 a7) fun a7 => oB (decI .i64 a8) fun a8 => oB (decI .i64 a9) fun a9 => oB (decI .i64 a10) fun a10 => oB (decI .i64 a11) fun a11 => oB (decI .i64 a12) fun a12 => oB (decI .i64 a13) fun a13 => oB (decI .i64 a14) fun a14 => some (Rec.mk a0 a1 a2 a3 a4 a5 a6 a7 a8 a9 a10 a11 a12 a13 a14)
  | _ => none
def dec6 (l : List (AV El)) : Option (El 6) := match l with
  | [] => some (Unit.unit )
  | _ => none
def decD (c : Nat) (l : List (AV El)) : Option (El c) := match c with
  | 0 => dec0 l
  | 1 => dec1 l
  | 2 => dec2 l
  | 3 => dec3 l
  | 4 => dec4 l
  | 5 => dec5 l
  | 6 => dec6 l
  | _ => none
def dflD (c : Nat) : El c := match c with
  | 0 => (0 : UInt8)
  | 1 => Prod.mk [] false
  | 2 => Prod.mk [] []
  | 3 => (0 : Int)
  | 4 => Prod.mk 0 0
  | 5 => Rec.mk 0 0 0 [] 0 0 0 0 0 0 0 0 0 0 0
  | 6 => Unit.unit 
  | (_ + 7) => ()
/-- what is known of the variables: the table of powers, two errors -/
def errAt (w : World) (g : Nat) : Prop := ∃ (a : Addr) (fz : Nat × Nat), w.heap[g]? = some (.cells #[.iface 346 (.pointer (some a))] 104 fz) ∧ a.spot = none
def gwD (w : World) : Prop := Lib.TabIs Tryz.prog w "internal/strconv.uint64pow10" .u64 Lib.pow10Tab ∧ errAt w 2 ∧ errAt w 3
def ngD : Nat := 1 + 2 + 3 + 1
theorem gTab : Tryz.prog.globalNamed "internal/strconv.uint64pow10" = some 1 := by kernel_rfl
theorem errAt.cell {w : World} {g : Nat} (h : errAt w g) : ∃ te pe, w.cell? ⟨g, 0, none⟩ = some (.iface te pe) := by
  obtain ⟨a, fz, h, _⟩ := h
  refine ⟨346, .pointer (some a), ?_⟩
  simp [World.cell?, h]
theorem errAt.mono {w w' : World} {g : Nat} (hg : w'.heap[g]? = w.heap[g]?) (h : errAt w g) : errAt w' g := by
  obtain ⟨a, fz, h, hs⟩ := h
  exact ⟨a, fz, hg.trans h, hs⟩
theorem gstD (w w' : World) (h : ∀ c, c < ngD → w'.heap[c]? = w.heap[c]?) (hw : gwD w) : gwD w' := by
  obtain ⟨h1, h2, h3⟩ := hw
  refine ⟨?_, h2.mono (h _ (by unfold ngD; omega)), h3.mono (h _ (by unfold ngD; omega))⟩
  unfold Lib.TabIs World.var? at *
  rw [gTab] at *
  rw [Option.bind_some] at *
  rw [h _ (by unfold ngD; omega)]
  exact h1
def D : Data := ⟨El, szD, encD, decD, dflD, 0, fun xs => xs, fun xs => xs, ngD, gwD, gstD⟩
end
section
variable {M : Pm D} {v : AV D.E} {val : Value}
theorem decI_VR {k : IntKind} {n : Int} (h : decI k v = some n) (hv : VR M v val) : VR M (.int k n : AV D.E) val ∧ inR k n = true := by
  cases hv <;> simp only [decI] at h <;> (try (cases h; done))
  case int k' n' hr =>
    obtain ⟨h1, h2⟩ := oI_some.1 h
    cases h2
    rw [kEq_iff.1 h1]
    exact ⟨.int hr, hr⟩
  case num k' n' hr =>
    obtain ⟨h1, h2⟩ := oI_some.1 h
    cases h2
    rw [kEq_iff.1 h1]
    exact ⟨.int hr, hr⟩
theorem decB_VR {b : Bool} (h : decB v = some b) (hv : VR M v val) : VR M (.bool b : AV D.E) val := by
  cases hv <;> simp only [decB] at h <;> (try (cases h; done))
  · cases h; exact .bool _
  · cases h; exact .bool _
theorem decS_VR {s : List UInt8} (h : decS v = some s) (hv : VR M v val) : VR M (.str s : AV D.E) val := by
  cases hv <;> simp only [decS] at h <;> (try (cases h; done))
  cases h
  exact .str (by assumption)
theorem b8_toNat {n : Int} (h : inR .u8 n = true) : ((b8 n).toNat : Int) = n := by
  rw [inR_iff] at h
  simp only [kMn, kMx] at h
  unfold b8
  rw [UInt8.toNat_ofNat']
  omega
/-- a row of cells, one by one -/
def RowR (row enc : List (AV D.E)) : Prop := row.length = enc.length ∧ ∀ (j : Nat) (a a' : AV D.E), row[j]? = some a → enc[j]? = some a' → ∀ (M : Pm D) (v : Value), VR M a v → VR (D := D) M a' v
theorem RowR.nil : RowR [] [] := ⟨rfl, fun j a a' h => by simp at h⟩
theorem RowR.cons {a a' : AV D.E} {r e : List (AV D.E)} (h : ∀ (M : Pm D) (v : Value), VR M a v → VR (D := D) M a' v) (hr : RowR r e) : RowR (a :: r) (a' :: e) :=
  ⟨by simp [hr.1], fun j x x' e1 e2 => by
    cases j with
    | zero => simp at e1 e2; subst e1; subst e2; exact h
    | succ j => exact hr.2 j x x' (by simpa using e1) (by simpa using e2)⟩
end
theorem dec0_ok {row : List (AV El)} {x : El 0} (h : dec0 row = some x) : RowR row (encD 0 x) := by
  unfold dec0 at h
  split at h
  · rename_i a0
    obtain ⟨x0, e0, h⟩ := oB_some.1 h
    cases h
    exact .cons (fun M v hv => by
      obtain ⟨h1, h2⟩ := decI_VR e0 hv
      show VR M (.int .u8 ((b8 x0).toNat : Int)) v
      rw [b8_toNat h2]
      exact h1) .nil
  · cases h
theorem dec1_ok {row : List (AV El)} {x : El 1} (h : dec1 row = some x) : RowR row (encD 1 x) := by
  unfold dec1 at h
  split at h
  · rename_i a0 a1
    obtain ⟨x0, e0, h⟩ := oB_some.1 h
    obtain ⟨x1, e1, h⟩ := oB_some.1 h
    cases h
    exact .cons (fun _ _ hv => decS_VR e0 hv) (.cons (fun _ _ hv => decB_VR e1 hv) .nil)
  · cases h
theorem dec2_ok {row : List (AV El)} {x : El 2} (h : dec2 row = some x) : RowR row (encD 2 x) := by
  unfold dec2 at h
  split at h
  · rename_i a0 a1
    obtain ⟨x0, e0, h⟩ := oB_some.1 h
    obtain ⟨x1, e1, h⟩ := oB_some.1 h
    cases h
    exact .cons (fun _ _ hv => decS_VR e0 hv) (.cons (fun _ _ hv => decS_VR e1 hv) .nil)
  · cases h
theorem dec3_ok {row : List (AV El)} {x : El 3} (h : dec3 row = some x) : RowR row (encD 3 x) := by
  unfold dec3 at h
  split at h
  · rename_i a0
    obtain ⟨x0, e0, h⟩ := oB_some.1 h
    cases h
    exact .cons (fun _ _ hv => (decI_VR e0 hv).1) .nil
  · cases h
theorem dec4_ok {row : List (AV El)} {x : El 4} (h : dec4 row = some x) : RowR row (encD 4 x) := by
  unfold dec4 at h
  split at h
  · rename_i a0 a1
    obtain ⟨x0, e0, h⟩ := oB_some.1 h
    obtain ⟨x1, e1, h⟩ := oB_some.1 h
    cases h
    exact .cons (fun _ _ hv => (decI_VR e0 hv).1) (.cons (fun _ _ hv => (decI_VR e1 hv).1) .nil)
  · cases h
theorem dec5_ok {row : List (AV El)} {x : El 5} (h : dec5 row = some x) : RowR row (encD 5 x) := by
  unfold dec5 at h
  split at h
  · rename_i a0 a1 a2 a3 a4 a5 a6 a7 a8 a9 a10 a11 a12 a13 a14
    obtain ⟨x0, e0, h⟩ := oB_some.1 h
    obtain ⟨x1, e1, h⟩ := oB_some.1 h
    obtain ⟨x2, e2, h⟩ := oB_some.1 h
    obtain ⟨x3, e3, h⟩ := oB_some.1 h
    obtain ⟨x4, e4, h⟩ := oB_some.1 h
    obtain ⟨x5, e5, h⟩ := oB_some.1 h
    obtain ⟨x6, e6, h⟩ := oB_some.1 h
    obtain ⟨x7, e7, h⟩ := oB_some.1 h
    obtain ⟨x8, e8, h⟩ := oB_some.1 h
    obtain ⟨x9, e9, h⟩ := oB_some.1 h
    obtain ⟨x10, e10, h⟩ := oB_some.1 h
    obtain ⟨x11, e11, h⟩ := oB_some.1 h
    obtain ⟨x12, e12, h⟩ := oB_some.1 h
    obtain ⟨x13, e13, h⟩ := oB_some.1 h
    obtain ⟨x14, e14, h⟩ := oB_some.1 h
    cases h
    exact .cons (fun _ _ hv => (decI_VR e0 hv).1) (.cons (fun _ _ hv => (decI_VR e1 hv).1) (.cons (fun _ _ hv => (decI_VR e2 hv).1) (.cons (fun _ _ hv => decS_VR e3 hv) (.cons (fun _ _ hv => (decI_VR e4 hv).1) (.cons (fun _ _ hv => (decI_VR e5 hv).1) (.cons (fun _ _ hv => (decI_VR e6 hv).1) (.cons (fun _ _ hv => (decI_VR e7 hv).1) (.cons (fun _ _ hv => (decI_VR e8 hv).1) (.cons (fun _ _ hv => (decI_VR e9 hv).1) (.cons (fun _ _ hv => (decI_VR e10 hv).1) (.cons (fun _ _ hv => (decI_VR e11 hv).1) (.cons (fun _ _ hv => (decI_VR e12 hv).1) (.cons (fun _ _ hv => (decI_VR e13 hv).1) (.cons (fun _ _ hv => (decI_VR e14 hv).1) .nil))))))))))))))
  · cases h
theorem dec6_ok {row : List (AV El)} {x : El 6} (h : dec6 row = some x) : RowR row (encD 6 x) := by
  unfold dec6 at h
  split at h
  · skip
    cases h
    exact .nil
  · cases h
theorem allP {l : List (AV D.E)} (h : allL (fun v => one v && pure0 (D := D) v) l = true) : ∀ v ∈ l, one v = true ∧ pure0 v = true := fun v hv => by
  have := allL_iff.1 h v hv
  simpa using this
theorem D_ok : DataOk D where
  len := fun c x => by
    show (encD c x).length = szD c
    match c, x with
    | 0, x => rfl
    | 1, x => rfl
    | 2, x => rfl
    | 3, x => rfl
    | 4, x => rfl
    | 5, x => rfl
    | 6, x => rfl
    | _ + 7, x => rfl
  one := fun c x => by
    show ∀ v ∈ encD c x, one v = true ∧ pure0 (D := D) v = true
    match c, x with
    | 0, x => intro v hv; exact allP (l := encD 0 x) (by rfl) v hv
    | 1, x => intro v hv; exact allP (l := encD 1 x) (by rfl) v hv
    | 2, x => intro v hv; exact allP (l := encD 2 x) (by rfl) v hv
    | 3, x => intro v hv; exact allP (l := encD 3 x) (by rfl) v hv
    | 4, x => intro v hv; exact allP (l := encD 4 x) (by rfl) v hv
    | 5, x => intro v hv; exact allP (l := encD 5 x) (by rfl) v hv
    | 6, x => intro v hv; exact allP (l := encD 6 x) (by rfl) v hv
    | _ + 7, x => intro v hv; exact allP (l := [.int .i64 0]) (by rfl) v hv
  dec := fun c row x h => by
    have key : RowR row (encD c x) := by
      match c, x, h with
      | 0, x, h => exact dec0_ok h
      | 1, x, h => exact dec1_ok h
      | 2, x, h => exact dec2_ok h
      | 3, x, h => exact dec3_ok h
      | 4, x, h => exact dec4_ok h
      | 5, x, h => exact dec5_ok h
      | 6, x, h => exact dec6_ok h
      | _ + 7, x, h => cases (show none = some x from h)
    have hl : (encD c x).length = szD c := by
      match c, x with
      | 0, x => rfl
      | 1, x => rfl
      | 2, x => rfl
      | 3, x => rfl
      | 4, x => rfl
      | 5, x => rfl
      | 6, x => rfl
      | _ + 7, x => rfl
    exact ⟨key.1.trans hl, key.2⟩
  b1 := rfl
  bl := fun _ => rfl
  be := fun _ _ _ => rfl
  bo := fun _ => rfl
end Go.Proofs.YtjdehneddakpnaaGreatDoor.sx
namespace Go.Proofs.YtjdehneddakpnaaGreatDoor.sx
open Go Go.RowKit
noncomputable section
/-- codes of the types of elements -/
def cdD (t : TypeId) : Option Nat := match t with
  | 5 => some 0
  | 86 => some 1
  | 65 => some 1
  | 69 => some 2
  | 3 => some 3
  | 48 => some 4
  | 49 => some 4
  | 80 => some 5
  | _ => none
def noNG (l : List Func) : Bool := allL (fun fn => Bool.not (fn.name == "runtime.NumGoroutine" && fn.body.isSome)) l
theorem noNG_spec {P : Program} (h : noNG P.funcs.toList = true) : NoNG P := fun f fn hf => by
  have := allL_iff.1 h fn (List.mem_of_getElem? (i := f) (by rw [Array.getElem?_toList]; exact hf))
  exact Bool.not_eq_true' _ |>.mp this
theorem noCount : NoNG Tryz.prog := noNG_spec (by kernel_rfl)
theorem mixed : Tryz.prog.follows .mixedOrders = true := by kernel_rfl
def bodyOf (f : Func) : Code := match f.body with
  | some c => c
  | none => .skip
abbrev Tab := List (Con D)
/-- the condition of a function -/
def vcOf (tab : Tab) (fn : Func) (k : Con D) (orc : k.Y → Orc D) (y : k.Y) : Prop := bodyW Tryz.prog D cdD (caT D tab) (orc y) fn.ntmps k (bodyOf fn) fn.results.toList y
abbrev Ok (k : Con D) : Prop := ConOk Tryz.prog D k
/-- with the count of arguments held against the frame -/
def vc (tab : Tab) (fn : Func) (k : Con D) (orc : k.Y → Orc D) (y : k.Y) : Prop := bif Nat.ble (lLen (k.args y)) fn.ntmps then vcOf tab fn k orc y else False
@[reducible] def Oks : Tab → Prop
  | [] => True
  | [k] => Ok k
  | k :: l => Ok k ∧ Oks l
theorem Oks.all : ∀ {l : Tab}, Oks l → ∀ k ∈ l, Ok k
  | [], _, k, hk => nomatch hk
  | [a], h, k, hk => by cases hk with
    | head => exact h
    | tail _ hk => cases hk
  | a :: b :: l, h, k, hk => by cases hk with
    | head => exact h.1
    | tail _ hk => exact Oks.all h.2 k hk
theorem lLen_length {α : Type} (l : List α) : lLen l = l.length := by
  induction l with
  | nil => rfl
  | cons a l ih => show Nat.succ (lLen l) = _; rw [ih]; rfl
theorem okB {fn : Func} {k : Con D} {tab : Tab} {orc : k.Y → Orc D} {y : k.Y} (h : vc tab fn k orc y) : (k.args y).length ≤ fn.ntmps ∧ vcOf tab fn k orc y := by
  unfold vc at h
  rw [lLen_length] at h
  cases hb : Nat.ble (k.args y).length fn.ntmps with
  | false => rw [hb] at h; exact h.elim
  | true => rw [hb] at h; exact ⟨Nat.le_of_ble_eq_true hb, h⟩
theorem body_some {fn : Func} (h : fn.body.isSome = true) : fn.body = some (bodyOf fn) := by
  unfold bodyOf
  cases hb : fn.body with
  | none => rw [hb] at h; cases h
  | some c => rfl
theorem okW {k : Con D} {fn : Func} {tab : Tab} {orc : k.Y → Orc D} {V : k.Y → Prop} (hV : ∀ y, V y = vc tab fn k orc y) (ht : Oks tab) (h : ∀ y, k.pre y → V y)
    (hfn : Tryz.prog.funcs[k.f]? = some fn := by kernel_rfl) (hc : fn.body.isSome = true := by kernel_rfl) : Ok k := by
  refine ⟨⟨fn, _, hfn, body_some hc⟩, fun y hy => ?_⟩
  obtain ⟨h1, h2⟩ := okB (Eq.mp (hV y) (h y hy))
  exact fun M A w hl hS hT R hR => call_of_body D_ok mixed noCount hfn (body_some hc) (caT_ok D_ok ht.all) h1 h2 M A w hl hS hT R hR
abbrev By := List UInt8
/-- rows of a printed condition that say nothing -/
def Rfs {α : Type} (l : List α) (p : Prop) : Prop := List.rec (motive := fun _ => Prop) p (fun a _ ih => a = a ∧ ih) l
@[simp] theorem Rfs_eq {α : Type} (l : List α) (p : Prop) : Rfs l p = p := by
  induction l with
  | nil => rfl
  | cons a l ih =>
    show (a = a ∧ Rfs l p) = p
    rw [ih]; simp
/-- closed truths; both sides of a truth -/
def Tt (n : Nat) (p : Prop) : Prop := Nat.rec (motive := fun _ => Prop) p (fun _ ih => true = true ∧ ih) n
@[simp] theorem Tt_eq (n : Nat) (p : Prop) : Tt n p = p := by
  induction n with
  | zero => rfl
  | succ n ih =>
    show (true = true ∧ Tt n p) = p
    rw [ih]; simp
def Bth (b : Bool) (p q : Prop) : Prop := (b = true → p) ∧ (b = false → q)
@[simp] theorem Bth_eq (b : Bool) (p q : Prop) : Bth b p q = ((b = true → p) ∧ (b = false → q)) := rfl
def gN {α : Type} (d : α) (l : List α) (x : Nat) : α := gt d l (Int.toNat (x : Int))
@[simp] theorem gN_eq {α : Type} (d : α) (l : List α) (x : Nat) : gN d l x = gt d l x := rfl
end
end Go.Proofs.YtjdehneddakpnaaGreatDoor.sx
namespace Go.Proofs.YtjdehneddakpnaaGreatDoor.sx
open Go Go.RowKit
theorem ile_t {a b : Int} : ile a b = true ↔ a ≤ b := by simp [ile]
theorem ile_f {a b : Int} : ile a b = false ↔ b < a := by simp [ile]
theorem ilt_t {a b : Int} : ilt a b = true ↔ a < b := by simp [ilt]
theorem ilt_f {a b : Int} : ilt a b = false ↔ b ≤ a := by simp [ilt]
theorem ieq_t {a b : Int} : ieq a b = true ↔ a = b := by simp [ieq]
theorem ieq_f {a b : Int} : ieq a b = false ↔ a ≠ b := by simp [ieq]
theorem fits_t {n : Int} {b : Nat} : fits n b = true ↔ n * b ≤ 140737488355328 := by simp [fits]
theorem inR64 {n : Int} : inR .i64 n = true ↔ -9223372036854775808 ≤ n ∧ n ≤ 9223372036854775807 := by rw [inR_iff]; simp only [kMn, kMx]
theorem iadd64 {a b : Int} (h1 : -9223372036854775808 ≤ a + b) (h2 : a + b ≤ 9223372036854775807) : iadd .i64 a b = a + b := inR_wrap (inR64.2 ⟨h1, h2⟩)
theorem llen_eq {α : Type} (l : List α) : llen l = (l.length : Int) := rfl
theorem lcat_eq {α : Type} (a b : List α) : lcat a b = a ++ b := rfl
theorem slen_eq (s : By) : slen s = (s.length : Int) := rfl
end Go.Proofs.YtjdehneddakpnaaGreatDoor.sx
namespace Go.Proofs.YtjdehneddakpnaaGreatDoor.sx
open Go Go.RowKit
end Go.Proofs.YtjdehneddakpnaaGreatDoor.sx
namespace Go.Proofs.YtjdehneddakpnaaGreatDoor.sx
open Go Go.RowKit
def hexF (c : UInt8) : Int := if 48 ≤ c.toNat ∧ c.toNat ≤ 57 then (c.toNat : Int) - 48 else if 97 ≤ c.toNat ∧ c.toNat ≤ 102 then (c.toNat : Int) - 87 else -1
/-- what a backslash and what follows it say, and how many bytes these are -/
def signF (s : By) : UInt8 × Nat := match s with
  | _ :: c :: t =>
    if c = 34 ∨ c = 92 then (c, 2) else if c = 110 then (10, 2) else if c = 116 then (9, 2) else if c = 114 then (13, 2) else if c = 120 then (match t with
      | a :: b :: _ => if 0 ≤ hexF a ∧ 0 ≤ hexF b then (UInt8.ofNat (16 * hexF a + hexF b).toNat, 4) else (0, 0)
      | _ => (0, 0))
    else (0, 0)
  | _ => (0, 0)
/-- behind a quote: the bytes, and how many were taken -/
def qGo : Nat → By → Option (By × Nat)
  | 0, _ => none
  | _ + 1, [] => none
  | n + 1, c :: t =>
    if c = 34 then some ([], 1)
    else if c = 92 then (if (signF (c :: t)).2 = 0 then none else (qGo n ((c :: t).drop (signF (c :: t)).2)).map fun r => ((signF (c :: t)).1 :: r.1, r.2 + (signF (c :: t)).2))
    else if c.toNat < 32 ∨ 126 < c.toNat then none
    else (qGo n t).map fun r => (c :: r.1, r.2 + 1)
theorem signF_le (s : By) : (signF s).2 ≤ s.length ∧ ((signF s).2 = 0 ∨ 2 ≤ (signF s).2) := by
  unfold signF
  repeat' split
  all_goals simp
theorem qGo_fuel : ∀ (n m : Nat) (s : By), s.length ≤ n → s.length ≤ m → qGo n s = qGo m s
  | 0, 0, _, _, _ => rfl
  | 0, m + 1, s, h, _ => by
    obtain rfl : s = [] := List.eq_nil_of_length_eq_zero (by omega)
    rfl
  | n + 1, 0, s, _, h => by
    obtain rfl : s = [] := List.eq_nil_of_length_eq_zero (by omega)
    rfl
  | n + 1, m + 1, s, h1, h2 => by
    cases s with
    | nil => rfl
    | cons c t =>
      simp only [List.length_cons] at h1 h2
      unfold qGo
      have hs := signF_le (c :: t)
      rw [qGo_fuel n m t (by omega) (by omega)]
      by_cases h0 : (signF (c :: t)).2 = 0
      · rw [if_pos h0, if_pos h0]
      · rw [qGo_fuel n m ((c :: t).drop (signF (c :: t)).2) (by rw [List.length_drop, List.length_cons]; omega) (by rw [List.length_drop, List.length_cons]; omega)]
structure Sv where
  kind : Int
  n : Int
  name : By
  to : By
  data : By
  rules : List Pat
  cont : By
def wd (l : List Wd) (i : Nat) : Wd := l.getD i ([], false)
def w0 (l : List Wd) : By := (wd l 0).1
def sayF (s : By) (l : List Int) : By := s ++ l.flatMap fun n => 32 :: Lib.itoa n
def toldF (t : Told) : By := sayF [116, 111, 108, 100] [t.1, t.2] ++ [10]
def recF (r : Rec) : By := (if r.kind = 1 then sayF (sayF [109, 97, 116, 99, 104] [r.ino, r.gen, r.pos] ++ 32 :: r.rule) [r.c0, r.c1] else sayF [108, 111, 110, 103] [r.ino, r.gen, r.pos]) ++ [10]
def showF (why at_ : Int) (told : List Told) (recs : List Rec) : By := (if why = 0 then [] else sayF [101, 114, 114, 111, 114] [why, at_] ++ [10]) ++ (told.flatMap toldF ++ recs.flatMap recF)
end Go.Proofs.YtjdehneddakpnaaGreatDoor.sx
namespace Go.Proofs.YtjdehneddakpnaaGreatDoor.sx
open Go Go.RowKit
end Go.Proofs.YtjdehneddakpnaaGreatDoor.sx
namespace Go.Proofs
open Go.Shelf
def Tryz.laysM171_ren : Go.Shelf.Ren := ⟨fun | 171 => 28 | 243 => 47 | 246 => 66 | 283 => 87 | 284 => 88 | 285 => 89 | 286 => 90 | 129 => 134 | 317 => 133 | 318 => 135 | 319 => 136 | 320 => 137 | 337 => 194 | 338 => 195 | n => n, fun | 3 => 3 | 9 => 9 | 2 => 2 | 4 => 4 | 171 => 166 | 0 => 0 | 53 => 132 | 37 => 22 | 5 => 5 | 173 => 169 | 212 => 256 | 51 => 195 | 20 => 20 | 213 => 257 | 46 => 109 | 232 => 424 | 233 => 425 | n => n, fun | 17 => 1 | 18 => 4 | 19 => 5 | n => n⟩
theorem Tryz.laysM171 : Go.Proofs.LaysM.n171 Tryz.prog Tryz.laysM171_ren := {
  mixed := by kernel_rfl
  f129 := Tryz.func134.trans (congrArg some (by kernel_rfl))
  f171 := Tryz.func28.trans (congrArg some (by kernel_rfl))
  f243 := Tryz.func47.trans (congrArg some (by kernel_rfl))
  f246 := Tryz.func66.trans (congrArg some (by kernel_rfl))
  f283 := Tryz.func87.trans (congrArg some (by kernel_rfl))
  f284 := Tryz.func88.trans (congrArg some (by kernel_rfl))
  f285 := Tryz.func89.trans (congrArg some (by kernel_rfl))
  f286 := Tryz.func90.trans (congrArg some (by kernel_rfl))
  f317 := Tryz.func133.trans (congrArg some (by kernel_rfl))
  f318 := Tryz.func135.trans (congrArg some (by kernel_rfl))
  f319 := Tryz.func136.trans (congrArg some (by kernel_rfl))
  f320 := Tryz.func137.trans (congrArg some (by kernel_rfl))
  f337 := Tryz.func194.trans (congrArg some (by kernel_rfl))
  f338 := Tryz.func195.trans (congrArg some (by kernel_rfl))
  t0 := Tryz.underlying0
  a0 := Tryz.isAgg0
  z0 := Tryz.sizeOf0
  v0 := Tryz.zeroValue0
  t2 := Tryz.underlying2
  a2 := Tryz.isAgg2
  z2 := Tryz.sizeOf2
  v2 := Tryz.zeroValue2
  t3 := Tryz.underlying3
  a3 := Tryz.isAgg3
  z3 := Tryz.sizeOf3
  v3 := Tryz.zeroValue3
  t4 := Tryz.underlying4
  a4 := Tryz.isAgg4
  z4 := Tryz.sizeOf4
  v4 := Tryz.zeroValue4
  t5 := Tryz.underlying5
  a5 := Tryz.isAgg5
  z5 := Tryz.sizeOf5
  v5 := Tryz.zeroValue5
  t9 := Tryz.underlying9
  a9 := Tryz.isAgg9
  z9 := Tryz.sizeOf9
  v9 := Tryz.zeroValue9
  t20 := Tryz.underlying20
  a20 := Tryz.isAgg20
  z20 := Tryz.sizeOf20
  v20 := Tryz.zeroValue20
  t37 := Tryz.underlying22
  a37 := Tryz.isAgg22
  z37 := Tryz.sizeOf22
  v37 := Tryz.zeroValue22
  t46 := Tryz.underlying109
  a46 := Tryz.isAgg109
  z46 := Tryz.sizeOf109
  v46 := Tryz.zeroValue109
  t51 := Tryz.underlying195
  a51 := Tryz.isAgg195
  z51 := Tryz.sizeOf195
  v51 := Tryz.zeroValue195
  t53 := Tryz.underlying132
  a53 := Tryz.isAgg132
  z53 := Tryz.sizeOf132
  v53 := Tryz.zeroValue132
  t171 := Tryz.underlying166
  a171 := Tryz.isAgg166
  z171 := Tryz.sizeOf166
  v171 := Tryz.zeroValue166
  t173 := Tryz.underlying169
  a173 := Tryz.isAgg169
  z173 := Tryz.sizeOf169
  v173 := Tryz.zeroValue169
  t212 := Tryz.underlying256
  a212 := Tryz.isAgg256
  z212 := Tryz.sizeOf256
  v212 := Tryz.zeroValue256
  t213 := Tryz.underlying257
  a213 := Tryz.isAgg257
  z213 := Tryz.sizeOf257
  t232 := Tryz.underlying424
  a232 := Tryz.isAgg424
  z232 := Tryz.sizeOf424
  v232 := Tryz.zeroValue424
  t233 := Tryz.underlying425
  a233 := Tryz.isAgg425
  z233 := Tryz.sizeOf425
  v233 := Tryz.zeroValue425
  g17 := by kernel_rfl
  g18 := by kernel_rfl
  g19 := by kernel_rfl
  i0 := by kernel_rfl
  i2 := by kernel_rfl
  i3 := by kernel_rfl
  i4 := by kernel_rfl
  i5 := by kernel_rfl
  i9 := by kernel_rfl
  i20 := by kernel_rfl
  i37 := by kernel_rfl
  i46 := by kernel_rfl
  i51 := by kernel_rfl
  i53 := by kernel_rfl
  i171 := by kernel_rfl
  i173 := by kernel_rfl
  i212 := by kernel_rfl
  i232 := by kernel_rfl
  i233 := by kernel_rfl
  m17 := by kernel_rfl
  m18 := by kernel_rfl
  m19 := by kernel_rfl }
open Go.RowKit Go.Sort Go.Lib in
/-- strconv.Itoa: "Itoa is equivalent to FormatInt(int64(i), 10).": i's DECIMAL NUMERAL ('Lib.itoa': a '-' where i is negative, then the digits), FOR EVERY int. The world behind the call: the world before it, new blocks behind the heap (the library's 'var a [24]byte'), draws. (LAID: no walk: one application.) -/
theorem Tryz.strconv_Itoa (n : Int) (h0 : -9223372036854775808 ≤ n) (h1 : n ≤ 9223372036854775807) (w : World) (htab : Lib.TabIs Tryz.prog w "internal/strconv.uint64pow10" .u64 Lib.pow10Tab) :
    Calls Tryz.prog 28 #[.int .i64 n] w fun e w' => e = .returned (.string ⟨(Lib.itoa n).toArray⟩) ∧ ∃ k os, w' = grow (w.drewN k) os := Any.strconv_Itoa Tryz.laysM171 n h0 h1 w htab
end Go.Proofs
namespace Go.Proofs.YtjdehneddakpnaaGreatDoor.sx
open Go Go.RowKit
noncomputable section
/-- a contract without memory -/
abbrev con0 (f : FuncId) (Y : Type) (inp : List (AV D.E) → St D.E → C Y) (pre : Y → Prop) (args : Y → List (AV D.E)) (res : Y → AV D.E) : Con D := ⟨f, Y, inp, pre, args, fun _ => [], res, fun _ => [], 0, 0⟩
def in1 (args : List (AV D.E)) : C Int := match args with
  | [a] => bnd2 (asI a) fun _ n => .ret n
  | _ => .fail
/-- what is read behind a quote: with enough fuel -/
def qG (s : By) : Option (By × Nat) := qGo s.length s
def itoC : Con D := con0 28 Int (fun a _ => in1 a) (fun y => inR .i64 y = true) (fun y => [.int .i64 y]) fun y => .str (Lib.itoa y)
end
end Go.Proofs.YtjdehneddakpnaaGreatDoor.sx
namespace Go.Proofs.YtjdehneddakpnaaGreatDoor.sx
open Go Go.RowKit
end Go.Proofs.YtjdehneddakpnaaGreatDoor.sx
namespace Go.Proofs.YtjdehneddakpnaaGreatDoor.sx
open Go Go.RowKit
noncomputable section
end
end Go.Proofs.YtjdehneddakpnaaGreatDoor.sx
namespace Go.Proofs.YtjdehneddakpnaaGreatDoor.sx
open Go Go.RowKit
end Go.Proofs.YtjdehneddakpnaaGreatDoor.sx
namespace Go.Proofs.YtjdehneddakpnaaGreatDoor.sx
open Go Go.RowKit
noncomputable section
end
end Go.Proofs.YtjdehneddakpnaaGreatDoor.sx
namespace Go.Proofs.YtjdehneddakpnaaGreatDoor.sx
open Go Go.RowKit
end Go.Proofs.YtjdehneddakpnaaGreatDoor.sx
namespace Go.Proofs.YtjdehneddakpnaaGreatDoor.sx
open Go Go.RowKit
noncomputable section
end
end Go.Proofs.YtjdehneddakpnaaGreatDoor.sx
namespace Go.Proofs.YtjdehneddakpnaaGreatDoor.sx
open Go Go.RowKit
end Go.Proofs.YtjdehneddakpnaaGreatDoor.sx
namespace Go.Proofs.YtjdehneddakpnaaGreatDoor.sx
open Go Go.RowKit
theorem stp_below {M : Pm D} {w w' : World} {H : Hp D} (hS : Sim M H w) (h : Below w.heap.size w w') : Stp H M w H M w' 0 0 := .world hS h.size (fun c hc => h.block c hc) h.os h.tape h.output 0
theorem args1 {M : Pm D} {a : AV D.E} {A : Array Value} (h : LR M [a] A.toList) : ∃ v, A = #[v] ∧ VR M a v := by
  obtain ⟨l⟩ := A
  obtain ⟨v, r, e, h1, h2⟩ := h.uncons
  have := h2.nil_l
  subst this
  exact ⟨v, by simp at e; rw [e], h1⟩
theorem itoOk : Ok itoC := by
  refine ⟨⟨Tryz.f28, _, by kernel_rfl, body_some (by kernel_rfl)⟩, fun y hy M A w hA hS _ R hR => ?_⟩
  obtain ⟨v, rfl, hv⟩ := args1 hA
  cases hv with
  | int hn =>
    have hb := inR64.1 hn
    refine (Tryz.strconv_Itoa y hb.1 hb.2 w hS.glo.1.2.1).mono fun e w' ⟨he, k, os, hw⟩ => ?_
    subst he
    have hl := Lib.itoa_length_le y hb.1 hb.2
    refine hR M _ w' (.str (by omega)) (stp_below hS ?_)
    rw [hw]
    exact ⟨rfl, rfl, rfl, by show w.heap.size ≤ (w.heap ++ os).size; simp, fun j hj => by show (w.heap ++ os)[j]? = _; rw [Array.getElem?_append]; simp [hj]⟩
end Go.Proofs.YtjdehneddakpnaaGreatDoor.sx
namespace Go.Proofs.YtjdehneddakpnaaGreatDoor.sx
open Go Go.RowKit
set_option maxRecDepth 100000
theorem qG_cons (c : UInt8) (t : By) : qG (c :: t) = if c = 34 then some ([], 1) else if c = 92 then (if (signF (c :: t)).2 = 0 then none else (qG ((c :: t).drop (signF (c :: t)).2)).map fun r => ((signF (c :: t)).1 :: r.1, r.2 + (signF (c :: t)).2))
    else if c.toNat < 32 ∨ 126 < c.toNat then none else (qG t).map fun r => (c :: r.1, r.2 + 1) := by
  show qGo (t.length + 1) (c :: t) = _
  have hs := signF_le (c :: t)
  unfold qGo
  by_cases h0 : (signF (c :: t)).2 = 0
  · rw [if_pos h0, if_pos h0]; rfl
  · rw [if_neg h0, if_neg h0, qGo_fuel t.length ((c :: t).drop (signF (c :: t)).2).length _ (by rw [List.length_drop, List.length_cons]; omega) (Nat.le_refl _)]; rfl
theorem seq_f {a b : By} : seq a b = false ↔ a ≠ b := by simp [seq]
end Go.Proofs.YtjdehneddakpnaaGreatDoor.sx
namespace Go.Proofs.YtjdehneddakpnaaGreatDoor.sx
open Go Go.RowKit
set_option maxRecDepth 100000
theorem gt_nat {α : Type} (d : α) (l : List α) (x : Nat) : gt d l (Int.toNat (x : Int)) = l.getD x d := by simp [gt]
end Go.Proofs.YtjdehneddakpnaaGreatDoor.sx
