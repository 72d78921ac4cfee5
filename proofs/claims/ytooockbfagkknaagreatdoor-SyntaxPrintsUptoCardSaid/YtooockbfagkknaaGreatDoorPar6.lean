/- less, value, the builder, digits. -/
import Derived.Test.YtooockbfagkknaaGreatDoorPar5
import Derived.Test.YtooockbfagkknaaGreatDoorShelf
import Derived.Deep.RegionHeld3
namespace Go.Proofs.YtooockbfagkknaaGreatDoor.syn
open Go.RowKit Go.Proofs.YtooockbfagkknaaGreatDoor.sl Go.Proofs.YtooockbfagkknaaGreatDoor.cls
variable {c : Cx} {w : World} {s : Ps}
abbrev str (l : List UInt8) : Value := .string ⟨l.toArray⟩
theorem str_size (l : List UInt8) : (⟨l.toArray⟩ : ByteArray).size = l.length := by simp [ByteArray.size]
theorem str_toList (l : List UInt8) : (⟨l.toArray⟩ : ByteArray).toList = l := by rw [ByteArray.toList_eq]
set_option maxHeartbeats 4000000 in
theorem lessC (a b : List UInt8) (ha : a.length ≤ 1000000) (hb : b.length ≤ 1000000) (w : World) : Calls Tryz.prog 83 #[str a, str b] w fun e w' => e = .returned (.bool (lessB a b)) ∧ w' = w := by
  obtain ⟨x, hx⟩ : ∃ x : ByteArray, x = ⟨a.toArray⟩ := ⟨_, rfl⟩
  obtain ⟨y, hy⟩ : ∃ y : ByteArray, y = ⟨b.toArray⟩ := ⟨_, rfl⟩
  have e1 : lessB a b = (decide (x.size < y.size) || (x.size == y.size && Op.bytesLess x.toList y.toList)) := by
    rw [hx, hy, str_size, str_size, str_toList, str_toList]; rfl
  have s1 : x.size ≤ 1000000 := by rw [hx, str_size]; exact ha
  have s2 : y.size ≤ 1000000 := by rw [hy, str_size]; exact hb
  show Calls Tryz.prog 83 #[.string ⟨a.toArray⟩, .string ⟨b.toArray⟩] w _
  rw [← hx, ← hy, e1]
  clear hx hy e1
  rcases Nat.lt_trichotomy x.size y.size with h | h | h
  · have e2 : decide (x.size < y.size) = true := by simpa using h
    rw [e2]
    have i1 : (x.size : Int) < (y.size : Int) := by omega
    clear e2
    go_enter Tryz.func83, Tryz.ntmps83
    go_wp2_with fail
    go_ret
    exact ⟨rfl, rfl⟩
  · have e2 : decide (x.size < y.size) = false := by simp; omega
    have e3 : (x.size == y.size) = true := by simpa using h
    rw [e2, e3]
    have H := Lib.hid h
    generalize hm : x.size = m at *
    generalize hn : y.size = n at *
    clear e2 e3
    subst h
    go_enter Tryz.func83, Tryz.ntmps83
    go_wp2_with fail
    go_ret
    exact ⟨rfl, rfl⟩
  · have e2 : decide (x.size < y.size) = false := by simp; omega
    have e3 : (x.size == y.size) = false := by simp; omega
    rw [e2, e3]
    have i1 : (y.size : Int) < (x.size : Int) := by omega
    have i2 : ((x.size : Int) == (y.size : Int)) = false := by rw [beq_eq_false_iff_ne]; omega
    have E2 := Lib.hid e2
    clear e2 e3
    go_enter Tryz.func83, Tryz.ntmps83
    go_wp2_with fail
    go_ret
    refine ⟨?_, rfl⟩
    show Ending.returned (.bool (decide (x.size < y.size))) = _
    rw [E2.out]
    rfl
def DigB (l : List UInt8) : Prop := ∀ x ∈ l, 48 ≤ x.toNat ∧ x.toNat ≤ 57
set_option maxHeartbeats 4000000 in
theorem valueC (l : List UInt8) (hd : DigB l) (hl : l.length ≤ 1000000) (w : World) : Calls Tryz.prog 84 #[str l] w fun e w' => e = .returned (.tuple #[.int .i64 (valF l).1, .bool (valF l).2]) ∧ w' = w := by
  rcases l with _ | ⟨x, _ | ⟨y, _ | ⟨z, t⟩⟩⟩
  · go_enter Tryz.func84, Tryz.ntmps84
    go_wp2_with fail
    refine wp_loop_rounds 1 ?_
    rw [rounds_succ]
    go_wp2_with fail
    go_ret2
    exact ⟨rfl, rfl⟩
  · have h1 := hd x (by simp)
    have hv : valF [x] = (((x.toNat : Int) - 48), decide ((x.toNat : Int) - 48 ≤ 30)) := by simp [valF, valGo]
    rw [hv]
    clear hd hv
    go_enter Tryz.func84, Tryz.ntmps84
    go_wp2_with fail
    refine wp_loop_rounds 2 ?_
    rw [rounds_succ]
    go_wp2_with fail
    rw [rounds_succ]
    go_wp2_with fail
    go_ret2
    refine ⟨?_, rfl⟩
    have e : ((x.toNat : Int) - 48) % 256 = x.toNat - 48 := by omega
    show Ending.returned (.tuple #[.int .i64 (((x.toNat : Int) - 48) % 256), .bool (decide (((x.toNat : Int) - 48) % 256 ≤ 30))]) = _
    rw [e]
  · have h1 := hd x (by simp)
    have h2 := hd y (by simp)
    have hv : valF [x, y] = (10 * ((x.toNat : Int) - 48) + ((y.toNat : Int) - 48), decide (10 * ((x.toNat : Int) - 48) + ((y.toNat : Int) - 48) ≤ 30)) := by simp [valF, valGo]
    rw [hv]
    clear hd hv
    go_enter Tryz.func84, Tryz.ntmps84
    go_wp2_with fail
    refine wp_loop_rounds 3 ?_
    rw [rounds_succ]
    go_wp2_with fail
    rw [rounds_succ]
    go_wp2_with fail
    rw [rounds_succ]
    go_wp2_with fail
    go_ret2
    refine ⟨?_, rfl⟩
    have e : ((x.toNat : Int) - 48) % 256 = x.toNat - 48 := by omega
    have e' : ((y.toNat : Int) - 48) % 256 = y.toNat - 48 := by omega
    show Ending.returned (.tuple #[.int .i64 (10 * (((x.toNat : Int) - 48) % 256) + ((y.toNat : Int) - 48) % 256), .bool (decide (10 * (((x.toNat : Int) - 48) % 256) + ((y.toNat : Int) - 48) % 256 ≤ 30))]) = _
    rw [e, e']
  · have hv : valF (x :: y :: z :: t) = (0, false) := by simp [valF]
    rw [hv]
    obtain ⟨bs, hbs⟩ : ∃ bs : ByteArray, bs = ⟨(x :: y :: z :: t).toArray⟩ := ⟨_, rfl⟩
    have sz : bs.size = (x :: y :: z :: t).length := by rw [hbs, str_size]
    have sz2 : 2 < (x :: y :: z :: t).length := by simp
    show Calls Tryz.prog 84 #[.string ⟨(x :: y :: z :: t).toArray⟩] w _
    rw [← hbs]
    have i1 : (2 : Int) < (bs.size : Int) := by omega
    have i2 : (bs.size : Int) ≤ 1000000 := by omega
    clear hbs sz sz2 hd hl hv
    go_enter Tryz.func84, Tryz.ntmps84
    go_wp2_with fail
    go_ret2
    exact ⟨rfl, rfl⟩
/-! ### The builder -/
abbrev BT : TypeId := 114
abbrev self (b : Nat) : Value := .pointer (some ⟨b, 0, none⟩)
abbrev bytesC := Lib.byteCells
theorem sizeB : ∃ j, Tryz.prog.info? BT = some j ∧ j.size = 2 := by
  obtain ⟨j, hj, hs⟩ := Option.map_eq_some_iff.1 (show (Tryz.prog.info? BT).map (·.size) = some 2 by kernel_rfl)
  exact ⟨j, hj, hs⟩
set_option maxHeartbeats 2000000 in
set_option maxRecDepth 100000 in
theorem checkUsed (b : Nat) (w : World) (h0 : w.cell? ⟨b, 0, none⟩ = some (self b)) :
    Calls Tryz.prog 109 #[self b] w fun e w' => e = .returned (.tuple #[]) ∧ w' = w := by
  obtain ⟨j, hj, hjs⟩ := sizeB
  go_enter Tryz.func109, Tryz.ntmps109
  go_wp2
  rw [Lib.run_neq_ptr_same w _ Tryz.underlying112 hj]
  go_wp2
  go_end0
  exact ⟨rfl, rfl⟩
set_option maxHeartbeats 2000000 in
set_option maxRecDepth 100000 in
theorem checkFresh (b : Nat) (w : World) (h0 : w.cell? ⟨b, 0, none⟩ = some (.pointer none)) (hsh : w.shape? b = some (BT, 2)) (hfz : w.frozen? ⟨b, 0, none⟩ = false) :
    Calls Tryz.prog 109 #[self b] w fun e w' => e = .returned (.tuple #[]) ∧ w' = w.setCell ⟨b, 0, none⟩ (self b) := by
  obtain ⟨j, hj, hjs⟩ := sizeB
  go_enter Tryz.func109, Tryz.ntmps109
  go_wp2
  rw [Lib.run_to_unsafe w ⟨b, 0, none⟩ Tryz.underlying112 Tryz.underlying143 hj (by rw [hjs]; decide) hsh (Nat.zero_lt_succ 1)]
  simp only [Result.andThen]
  rw [Oper.upon_value]
  go_wp2
  rw [run_callFunc_extern Tryz.func124 (by kernel_rfl) (by kernel_rfl) (by kernel_rfl) (e := Extern.AbiNoEscape.same) (by kernel_rfl)]
  rw [Lib.run_noEscape]
  simp only [Result.andThen]
  rw [Oper.upon_value]
  go_wp2
  rw [Lib.run_from_unsafe w ⟨b, 0, none⟩ Tryz.underlying143 Tryz.underlying112 hj hsh (by kernel_rfl)]
  simp only [Result.andThen]
  rw [Oper.upon_value]
  go_wp2
  go_end0
  exact ⟨rfl, rfl⟩
theorem checkC (B b : Nat) (bs : List Value) (w : World) (h : Lib.IsBuilder BT 5 B b bs w) :
    Calls Tryz.prog 109 #[self b] w fun e w' => e = .returned (.tuple #[]) ∧ (Lib.BuilderAt BT 5 B b (self b) bs w' ∧ Below B w w') := by
  rcases h with h | h
  · refine (checkFresh b w h.cell0 h.shape h.frozen0).mono ?_
    rintro e w' ⟨rfl, rfl⟩
    exact ⟨rfl, h.used _, (Below.refl B w).setCell (p := ⟨b, 0, none⟩) h.1 _⟩
  · refine (checkUsed b w h.cell0).mono ?_
    rintro e w' ⟨rfl, rfl⟩
    exact ⟨rfl, h, Below.refl B _⟩
def eB (x : UInt8) : List Value := [.int .u8 x.toNat]
theorem eB_len (x : UInt8) : (eB x).length = 1 := rfl
theorem eB_one (x : UInt8) : ∀ u ∈ eB x, u.oneCell' = true := by simp [eB, Value.oneCell']
theorem elem_b : ElemTy Tryz.prog 41 5 1 1 := ElemTy.mk' (z := .int .u8 0) Tryz.underlying41 (by kernel_rfl) rfl (by decide)
theorem flat_eB (l : List UInt8) : flat eB l = Lib.byteCells l := by
  induction l with
  | nil => rfl
  | cons x t ih => show eB x ++ flat eB t = _; rw [ih]; rfl
set_option maxHeartbeats 4000000 in
set_option maxRecDepth 100000 in
theorem writeC (B b : Nat) (l : List UInt8) (x : UInt8) (w : World) (h : Lib.IsBuilder BT 5 B b (Lib.byteCells l) w) (hl : l.length ≤ 1000000) (hB : B ≤ w.heap.size) :
    Calls Tryz.prog 98 #[self b, .int .u8 x.toNat] w fun e w' => e = .returned .nilIface ∧ Lib.IsBuilder BT 5 B b (Lib.byteCells (l ++ [x])) w' ∧ Below B w w' := by
  go_enter Tryz.func98, Tryz.ntmps98
  go_wp2_with fail
  refine (checkC B b _ w h).mono ?_
  rintro e w1 ⟨rfl, ⟨hBb, v, hb, hown, hne⟩, b1⟩
  have hb1 := b1.size
  have c1 : w1.cell? ⟨b, 1, none⟩ = some v := cell_of_obj hb rfl
  have HB := Lib.hid hb
  have OW : Hid (Own eB 1 5 B w1 v l) := Lib.hid (by unfold Own; rw [flat_eB]; simpa [Lib.byteCells] using hown)
  have HN := Lib.hid hne
  have hblt := heap_lt hb
  have hB1 : B ≤ w1.heap.size := by omega
  have hl1 : l.length < 1000000000 := by omega
  clear hb hown hne h
  obtain ⟨av, capv, rfl, -, -⟩ := OW.out.rd
  go_wp2_with (at_builtin; go_must (refine wpList_app1F (v := .slice av l.length capv) elem_b rfl rfl rfl rfl (by simp) OW.out x rfl eB_len eB_one hl1 (by omega) hB1 ?_; intro v2 w2 o2 g2 f2; have hb2 := (g2.block b (by simp; omega) (fun e => HN.out e.symm)).trans ((Below.heap_alloc w1 _ b hblt).trans HB.out); have k2 : w2.cell? ⟨b, 1, none⟩ = some (.slice av l.length capv) := cell_of_obj hb2 rfl; have z2 := frozen_of_obj (o := 1) hb2; obtain ⟨av2, cv2, rfl, -, -⟩ := o2.rd))
  go_ret
  refine ⟨rfl, .inr ?_, ?_⟩
  · refine Lib.BuilderAt.put hBb hb2 ?_ (by decide)
    have := o2
    unfold Own at this
    rw [flat_eB] at this
    simpa [Lib.byteCells] using this
  · have b2 : Below B w w2 := grow_below b1 OW.out g2 (Nat.le_refl _) hB1
    exact b2.setCell (p := ⟨b, 1, none⟩) hBb _
end Go.Proofs.YtooockbfagkknaaGreatDoor.syn
