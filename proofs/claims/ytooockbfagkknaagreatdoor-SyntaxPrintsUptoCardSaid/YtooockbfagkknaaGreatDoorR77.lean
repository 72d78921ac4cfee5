/- spoorref7: need, second, fits, first, All. -/
import Derived.Test.YtooockbfagkknaaGreatDoorAll
namespace Go.Proofs.YtooockbfagkknaaGreatDoor.syn
open Go.RowKit Go.Proofs.YtooockbfagkknaaGreatDoor.sl Go.Proofs.YtooockbfagkknaaGreatDoor.cls
/-- How many bytes a rune has that begins so; none: 0. -/
def needN (c : Nat) : Nat := ((moreF c).1 + 1).toNat
theorem need_cases (c : Nat) (h : c < 256) : (c < 128 ∧ needN c = 1) ∨ (128 ≤ c ∧ c < 194 ∧ needN c = 0) ∨ (194 ≤ c ∧ c ≤ 223 ∧ needN c = 2) ∨ (224 ≤ c ∧ c ≤ 239 ∧ needN c = 3) ∨ (240 ≤ c ∧ c ≤ 244 ∧ needN c = 4) ∨ (245 ≤ c ∧ needN c = 0) := by
  unfold needN moreF
  repeat' split
  all_goals simp
  all_goals omega
set_option maxHeartbeats 4000000 in
set_option maxRecDepth 100000 in
theorem needC (c : Nat) (h : c < 256) (w : World) : Calls Tryz.prog 69 #[.int .u8 c] w fun e w' => e = .returned (.int .i64 (needN c)) ∧ w' = w := by
  have hc := need_cases c h
  generalize needN c = n at hc
  rcases hc with ⟨h1, rfl⟩ | ⟨h1, h2, rfl⟩ | ⟨h1, h2, rfl⟩ | ⟨h1, h2, rfl⟩ | ⟨h1, h2, rfl⟩ | ⟨h1, rfl⟩
  all_goals
    go_enter Tryz.func69, Tryz.ntmps69
    go_wp2_with fail
    go_ret
    exact ⟨rfl, rfl⟩
/-- Between which bytes the second one must lie. -/
def secR (c : Nat) : Nat × Nat := if c = 224 then (160, 191) else if c = 237 then (128, 159) else if c = 240 then (144, 191) else if c = 244 then (128, 143) else (128, 191)
def secB (c d : Nat) : Bool := decide ((secR c).1 ≤ d) && decide (d ≤ (secR c).2)
theorem sec_more {c : Nat} (h : 2 ≤ needN c) (hc : c < 256) : (moreF c).2 = secR c := by
  have hb : 194 ≤ c ∧ c ≤ 244 := by
    rcases need_cases c hc with ⟨h1, e⟩ | ⟨h1, h2, e⟩ | ⟨h1, h2, e⟩ | ⟨h1, h2, e⟩ | ⟨h1, h2, e⟩ | ⟨h1, e⟩ <;> omega
  clear h
  unfold moreF secR
  repeat' split
  all_goals first | rfl | omega
set_option maxHeartbeats 4000000 in
set_option maxRecDepth 100000 in
theorem secC (c d : Nat) (hc : c < 256) (hd : d < 256) (w : World) : Calls Tryz.prog 70 #[.int .u8 c, .int .u8 d] w fun e w' => e = .returned (.bool (secB c d)) ∧ w' = w := by
  by_cases h224 : c = 224
  · subst h224
    by_cases l1 : d < 160
    · have e : secB 224 d = false := by
        have : decide (160 ≤ d) = false := by simp; omega
        show (decide (160 ≤ d) && decide (d ≤ 191)) = _
        rw [this]; rfl
      rw [e]
      have k1 : decide ((160 : Int) ≤ (d : Int)) = false := by simp; omega
      clear e l1
      go_enter Tryz.func70, Tryz.ntmps70
      go_wp2_with fail
      go_ret
      exact ⟨rfl, rfl⟩
    have k1 : decide ((160 : Int) ≤ (d : Int)) = true := by simp; omega
    by_cases l2 : 191 < d
    · have e : secB 224 d = false := by
        have : decide (d ≤ 191) = false := by simp; omega
        show (decide (160 ≤ d) && decide (d ≤ 191)) = _
        rw [this]; simp
      rw [e]
      have k2 : decide ((d : Int) ≤ 191) = false := by simp; omega
      clear e l1 l2
      go_enter Tryz.func70, Tryz.ntmps70
      go_wp2_with fail
      go_ret
      exact ⟨rfl, rfl⟩
    have e : secB 224 d = true := by
      have e1 : decide (160 ≤ d) = true := by simp; omega
      have e2 : decide (d ≤ 191) = true := by simp; omega
      show (decide (160 ≤ d) && decide (d ≤ 191)) = _
      rw [e1, e2]; rfl
    rw [e]
    have k2 : decide ((d : Int) ≤ 191) = true := by simp; omega
    clear e l1 l2
    go_enter Tryz.func70, Tryz.ntmps70
    go_wp2_with fail
    go_ret
    exact ⟨rfl, rfl⟩
  have n224 : ((c : Int) == 224) = false := by rw [beq_eq_false_iff_ne]; omega
  by_cases h237 : c = 237
  · subst h237
    by_cases l1 : d < 128
    · have e : secB 237 d = false := by
        have : decide (128 ≤ d) = false := by simp; omega
        show (decide (128 ≤ d) && decide (d ≤ 159)) = _
        rw [this]; rfl
      rw [e]
      have k1 : decide ((128 : Int) ≤ (d : Int)) = false := by simp; omega
      clear e l1
      go_enter Tryz.func70, Tryz.ntmps70
      go_wp2_with fail
      go_ret
      exact ⟨rfl, rfl⟩
    have k1 : decide ((128 : Int) ≤ (d : Int)) = true := by simp; omega
    by_cases l2 : 159 < d
    · have e : secB 237 d = false := by
        have : decide (d ≤ 159) = false := by simp; omega
        show (decide (128 ≤ d) && decide (d ≤ 159)) = _
        rw [this]; simp
      rw [e]
      have k2 : decide ((d : Int) ≤ 159) = false := by simp; omega
      clear e l1 l2
      go_enter Tryz.func70, Tryz.ntmps70
      go_wp2_with fail
      go_ret
      exact ⟨rfl, rfl⟩
    have e : secB 237 d = true := by
      have e1 : decide (128 ≤ d) = true := by simp; omega
      have e2 : decide (d ≤ 159) = true := by simp; omega
      show (decide (128 ≤ d) && decide (d ≤ 159)) = _
      rw [e1, e2]; rfl
    rw [e]
    have k2 : decide ((d : Int) ≤ 159) = true := by simp; omega
    clear e l1 l2
    go_enter Tryz.func70, Tryz.ntmps70
    go_wp2_with fail
    go_ret
    exact ⟨rfl, rfl⟩
  have n237 : ((c : Int) == 237) = false := by rw [beq_eq_false_iff_ne]; omega
  by_cases h240 : c = 240
  · subst h240
    by_cases l1 : d < 144
    · have e : secB 240 d = false := by
        have : decide (144 ≤ d) = false := by simp; omega
        show (decide (144 ≤ d) && decide (d ≤ 191)) = _
        rw [this]; rfl
      rw [e]
      have k1 : decide ((144 : Int) ≤ (d : Int)) = false := by simp; omega
      clear e l1
      go_enter Tryz.func70, Tryz.ntmps70
      go_wp2_with fail
      go_ret
      exact ⟨rfl, rfl⟩
    have k1 : decide ((144 : Int) ≤ (d : Int)) = true := by simp; omega
    by_cases l2 : 191 < d
    · have e : secB 240 d = false := by
        have : decide (d ≤ 191) = false := by simp; omega
        show (decide (144 ≤ d) && decide (d ≤ 191)) = _
        rw [this]; simp
      rw [e]
      have k2 : decide ((d : Int) ≤ 191) = false := by simp; omega
      clear e l1 l2
      go_enter Tryz.func70, Tryz.ntmps70
      go_wp2_with fail
      go_ret
      exact ⟨rfl, rfl⟩
    have e : secB 240 d = true := by
      have e1 : decide (144 ≤ d) = true := by simp; omega
      have e2 : decide (d ≤ 191) = true := by simp; omega
      show (decide (144 ≤ d) && decide (d ≤ 191)) = _
      rw [e1, e2]; rfl
    rw [e]
    have k2 : decide ((d : Int) ≤ 191) = true := by simp; omega
    clear e l1 l2
    go_enter Tryz.func70, Tryz.ntmps70
    go_wp2_with fail
    go_ret
    exact ⟨rfl, rfl⟩
  have n240 : ((c : Int) == 240) = false := by rw [beq_eq_false_iff_ne]; omega
  by_cases h244 : c = 244
  · subst h244
    by_cases l1 : d < 128
    · have e : secB 244 d = false := by
        have : decide (128 ≤ d) = false := by simp; omega
        show (decide (128 ≤ d) && decide (d ≤ 143)) = _
        rw [this]; rfl
      rw [e]
      have k1 : decide ((128 : Int) ≤ (d : Int)) = false := by simp; omega
      clear e l1
      go_enter Tryz.func70, Tryz.ntmps70
      go_wp2_with fail
      go_ret
      exact ⟨rfl, rfl⟩
    have k1 : decide ((128 : Int) ≤ (d : Int)) = true := by simp; omega
    by_cases l2 : 143 < d
    · have e : secB 244 d = false := by
        have : decide (d ≤ 143) = false := by simp; omega
        show (decide (128 ≤ d) && decide (d ≤ 143)) = _
        rw [this]; simp
      rw [e]
      have k2 : decide ((d : Int) ≤ 143) = false := by simp; omega
      clear e l1 l2
      go_enter Tryz.func70, Tryz.ntmps70
      go_wp2_with fail
      go_ret
      exact ⟨rfl, rfl⟩
    have e : secB 244 d = true := by
      have e1 : decide (128 ≤ d) = true := by simp; omega
      have e2 : decide (d ≤ 143) = true := by simp; omega
      show (decide (128 ≤ d) && decide (d ≤ 143)) = _
      rw [e1, e2]; rfl
    rw [e]
    have k2 : decide ((d : Int) ≤ 143) = true := by simp; omega
    clear e l1 l2
    go_enter Tryz.func70, Tryz.ntmps70
    go_wp2_with fail
    go_ret
    exact ⟨rfl, rfl⟩
  have n244 : ((c : Int) == 244) = false := by rw [beq_eq_false_iff_ne]; omega
  have er : secR c = (128, 191) := by
    unfold secR
    rw [if_neg h224, if_neg h237, if_neg h240, if_neg h244]
  clear h224 h237 h240 h244
  by_cases l1 : d < 128
  · have e : secB c d = false := by
      have : decide (128 ≤ d) = false := by simp; omega
      show (decide ((secR c).1 ≤ d) && decide (d ≤ (secR c).2)) = _
      rw [er]
      show (decide (128 ≤ d) && decide (d ≤ 191)) = _
      rw [this]; rfl
    rw [e]
    have k1 : decide ((128 : Int) ≤ (d : Int)) = false := by simp; omega
    clear e l1
    go_enter Tryz.func70, Tryz.ntmps70
    go_wp2_with fail
    go_ret
    exact ⟨rfl, rfl⟩
  have k1 : decide ((128 : Int) ≤ (d : Int)) = true := by simp; omega
  by_cases l2 : 191 < d
  · have e : secB c d = false := by
      have : decide (d ≤ 191) = false := by simp; omega
      show (decide ((secR c).1 ≤ d) && decide (d ≤ (secR c).2)) = _
      rw [er]
      show (decide (128 ≤ d) && decide (d ≤ 191)) = _
      rw [this]; simp
    rw [e]
    have k2 : decide ((d : Int) ≤ 191) = false := by simp; omega
    clear e l1 l2
    go_enter Tryz.func70, Tryz.ntmps70
    go_wp2_with fail
    go_ret
    exact ⟨rfl, rfl⟩
  have e : secB c d = true := by
    have e1 : decide (128 ≤ d) = true := by simp; omega
    have e2 : decide (d ≤ 191) = true := by simp; omega
    show (decide ((secR c).1 ≤ d) && decide (d ≤ (secR c).2)) = _
    rw [er]
    show (decide (128 ≤ d) && decide (d ≤ 191)) = _
    rw [e1, e2]; rfl
  rw [e]
  have k2 : decide ((d : Int) ≤ 191) = true := by simp; omega
  clear e l1 l2
  go_enter Tryz.func70, Tryz.ntmps70
  go_wp2_with fail
  go_ret
  exact ⟨rfl, rfl⟩
/-- Do the bytes behind the first go on a rune, so far as there are any? -/
def runB : Nat → Nat → Nat → List UInt8 → Bool
  | 0, _, _, _ => true
  | _ + 1, _, _, [] => true
  | k + 1, lo, hi, b :: t => if b.toNat < lo ∨ hi < b.toNat then false else runB k 128 191 t
theorem runB_nil (k lo hi : Nat) : runB k lo hi [] = true := by cases k <;> rfl
theorem runB_step {k lo hi : Nat} {b : UInt8} {t : List UInt8} : runB (k + 1) lo hi (b :: t) = ((decide (lo ≤ b.toNat) && decide (b.toNat ≤ hi)) && runB k 128 191 t) := by
  rw [runB]
  by_cases h : b.toNat < lo ∨ hi < b.toNat
  · rw [if_pos h]
    have : (decide (lo ≤ b.toNat) && decide (b.toNat ≤ hi)) = false := by simp; omega
    rw [this]; rfl
  · rw [if_neg h]
    have : (decide (lo ≤ b.toNat) && decide (b.toNat ≤ hi)) = true := by simp; omega
    rw [this]; rfl
theorem cont_run : ∀ (k lo hi : Nat) (r : Int) (t : List UInt8), (∃ x, contGo k r lo hi t = some x) ↔ (runB k lo hi t = true ∧ k ≤ t.length)
  | 0, lo, hi, r, t => by simp [contGo, runB]
  | k + 1, lo, hi, r, [] => by simp [contGo]
  | k + 1, lo, hi, r, b :: t => by
    rw [contGo, runB]
    split
    · simp
    · rw [cont_run k 128 191 _ t]
      simp
def fitsF : List UInt8 → Nat × Nat
  | [] => (0, 0)
  | c :: t => if needN c.toNat = 0 then (0, 0) else if runB (needN c.toNat - 1) (secR c.toNat).1 (secR c.toNat).2 t then (min (t.length + 1) (needN c.toNat), needN c.toNat) else (0, 0)
def FitsPost (w : World) (q : Nat × Nat) (e : Ending) (w' : World) : Prop := e = .returned (.tuple #[.int .i64 q.1, .int .i64 q.2]) ∧ Below w.heap.size w w'
set_option maxHeartbeats 8000000 in
set_option maxRecDepth 100000 in
theorem fitsC (a : Option Addr) (l : List UInt8) (cap : Nat) (w : World) (h : Rd eB w a l cap) : Calls Tryz.prog 51 #[.slice a l.length cap] w (FitsPost w (fitsF l)) := by
  have hm := h.max
  have hle := h.le
  unfold maxLen at hm
  have H := Lib.hid h
  clear h
  rcases l with _ | ⟨c, t⟩
  · simp only [List.length_nil] at *
    go_enter Tryz.func51, Tryz.ntmps51
    go_wp2_with fail
    go_ret2
    exact ⟨rfl, Below.refl _ _⟩
  · obtain ⟨b, off, rfl, c0⟩ := cell_byte H.out (i := 0) (x := c) rfl
    simp only [Nat.add_zero] at c0
    have hx : c.toNat < 256 := c.toNat_lt
    have hlen : (c :: t).length = t.length + 1 := rfl
    have hn5 : needN c.toNat ≤ 4 := by
      rcases need_cases c.toNat hx with ⟨_, e⟩ | ⟨_, _, e⟩ | ⟨_, _, e⟩ | ⟨_, _, e⟩ | ⟨_, _, e⟩ | ⟨_, e⟩ <;> omega
    have NC := Lib.hid (fun w' => needC c.toNat hx w')
    have SC := Lib.hid (fun (d : UInt8) w' => secC c.toNat d.toNat hx d.toNat_lt w')
    rw [hlen] at hle ⊢
    have CT := Lib.hid (fun (i : Nat) (d : UInt8) (hd : t[i]? = some d) => (cell_byte H.out (i := i + 1) (x := d) (by rw [List.getElem?_cons_succ]; exact hd)))
    suffices key : ∀ q, fitsF (c :: t) = q → Calls Tryz.prog 51 #[.slice (some ⟨b, off, none⟩) (t.length + 1) cap] w (FitsPost w q) from key _ rfl
    intro q hq
    simp only [fitsF] at hq
    have HS : Hid (∀ d : UInt8, secB c.toNat d.toNat = (decide ((secR c.toNat).1 ≤ d.toNat) && decide (d.toNat ≤ (secR c.toNat).2))) := Lib.hid fun d => rfl
    generalize (secR c.toNat).1 = lo at hq HS
    generalize (secR c.toNat).2 = hi at hq HS
    generalize needN c.toNat = n at hn5 NC hq
    have HQ := Lib.hid hq
    clear hq hlen
    by_cases hn0 : n = 0
    · subst hn0
      rw [if_pos rfl] at HQ
      go_enter Tryz.func51, Tryz.ntmps51
      go_wp2_with fail
      refine (NC.out w).mono ?_
      rintro e w ⟨rfl, rfl⟩
      go_wp2_with fail
      go_ret2
      rw [← HQ.out]
      exact ⟨rfl, Below.refl _ _⟩
    · rw [if_neg hn0] at HQ
      have nz : ((n : Int) == 0) = false := by rw [beq_eq_false_iff_ne]; omega
      clear hn0
      go_enter Tryz.func51, Tryz.ntmps51
      go_wp2_with fail
      refine (NC.out w).mono ?_
      rintro e w ⟨rfl, rfl⟩
      go_wp2_with fail
      refine (NC.out w).mono ?_
      rintro e w ⟨rfl, rfl⟩
      go_wp2_with fail
      generalize hRB : runB (n - 1) lo hi t = RB at HQ
      have RB0 := Lib.hid hRB
      clear hRB
      go_loopg [5] 4 (fun gh ci wr => ∃ i : Nat, 1 ≤ i ∧ i ≤ 4 ∧ i ≤ t.length + 1 ∧ gh = 5 - i ∧ ci = .int .i64 i ∧ runB (n - i) (if i = 1 then lo else 128) (if i = 1 then hi else 191) (t.drop (i - 1)) = RB ∧ Below w.heap.size w wr)
      case atStart => exact ⟨1, by omega, by omega, by omega, rfl, rfl, RB0.out, Below.refl _ _⟩
      case round =>
        clear RB0
        obtain ⟨i, hi1, hi4, hil, rfl, rfl, hrun, hb⟩ := hrel
        have RBE := Lib.hid hrun
        have BB := Lib.hid hb
        clear hrun hb
        by_cases h1 : i < n
        · have j1 : (i : Int) < (n : Int) := by omega
          by_cases h2 : i < t.length + 1
          · have j2 : (i : Int) < (t.length : Int) + 1 := by omega
            obtain ⟨d, hd⟩ : ∃ d, t[i - 1]? = some d := ⟨_, List.getElem?_eq_getElem (by omega)⟩
            have CW := H.out.kept BB.out
            obtain ⟨b0, o0, e0, d0⟩ := cell_byte CW (i := 0) (x := c) rfl
            simp only [Option.some.injEq, Addr.mk.injEq, and_true, true_and] at e0
            obtain ⟨rfl, rfl⟩ := e0
            obtain ⟨b1, o1, e1, d1⟩ := cell_byte CW (i := i) (x := d) (by
              obtain ⟨m, rfl⟩ : ∃ m, i = m + 1 := ⟨i - 1, by omega⟩
              rw [List.getElem?_cons_succ]
              exact hd)
            simp only [Option.some.injEq, Addr.mk.injEq, and_true, true_and] at e1
            obtain ⟨rfl, rfl⟩ := e1
            simp only [Nat.add_zero] at d0
            have hdd : t.drop (i - 1) = d :: t.drop i := by
              rw [List.drop_eq_getElem_cons (by omega)]
              rw [List.getElem?_eq_getElem (by omega)] at hd
              rw [Option.some.inj hd, show i - 1 + 1 = i by omega]
            have hst := RBE.out
            obtain ⟨m, hm1⟩ : ∃ m, n - i = m + 1 := ⟨n - i - 1, by omega⟩
            rw [hdd, hm1, runB_step] at hst
            have hm2 : n - (i + 1) = m := by omega
            have hd256 : d.toNat < 256 := d.toNat_lt
            clear CW hd hdd c0
            by_cases hone : i = 1
            · subst hone
              rw [if_pos rfl, if_pos rfl, ← HS.out d] at hst
              have SD := Lib.hid (fun w' => SC.out d w')
              cases hs : secB c.toNat d.toNat
              · rw [hs] at SD hst
                have hrb : RB = false := by rw [← hst]; rfl
                clear hst hs hm1 hm2
                rw [hrb, if_neg (by simp)] at HQ
                clear hrb RBE
                go_wp2_with fail
                go_quiet ((go_at_call 70; exact Calls.quiet_of_same (SD.out _)))
                go_wp2_with fail
                go_ret2
                rw [← HQ.out]
                exact ⟨rfl, drewN_below BB.out _⟩
              · rw [hs] at SD hst
                have RB2 : Hid (runB (n - (1 + 1)) (if 1 + 1 = 1 then lo else 128) (if 1 + 1 = 1 then hi else 191) (t.drop (1 + 1 - 1)) = RB) := Lib.hid (by rw [hm2]; exact hst)
                clear hst hs hm1 hm2 RBE
                go_wp2_with fail
                go_quiet ((go_at_call 70; exact Calls.quiet_of_same (SD.out _)))
                go_wp2_with fail
                go_roundg (5 - (1 + 1))
                case measure => omega
                case rel => exact ⟨1 + 1, by omega, by omega, by omega, rfl, by go_num, RB2.out, drewN_below BB.out _⟩
            · rw [if_neg hone, if_neg hone] at hst
              have j3 : ((i : Int) == 1) = false := by rw [beq_eq_false_iff_ne]; omega
              have j4 : (1 : Int) < (i : Int) := by omega
              by_cases hlo : d.toNat < 128
              · have k1 : decide ((d.toNat : Int) < 128) = true := by simp; omega
                have hrb : RB = false := by
                  rw [← hst]
                  have : decide (128 ≤ d.toNat) = false := by simp; omega
                  rw [this]; rfl
                clear hst hlo hm1 hm2
                rw [hrb, if_neg (by simp)] at HQ
                clear hrb RBE
                go_wp2_with fail
                go_quiet (fail)
                go_wp2_with fail
                go_ret2
                rw [← HQ.out]
                exact ⟨rfl, drewN_below BB.out _⟩
              · have k1 : decide ((d.toNat : Int) < 128) = false := by simp; omega
                by_cases hhi : 191 < d.toNat
                · have k2 : decide ((191 : Int) < (d.toNat : Int)) = true := by simp; omega
                  have hrb : RB = false := by
                    rw [← hst]
                    have : decide (d.toNat ≤ 191) = false := by simp; omega
                    rw [this]; simp
                  clear hst hlo hhi hm1 hm2
                  rw [hrb, if_neg (by simp)] at HQ
                  clear hrb RBE
                  go_wp2_with fail
                  go_quiet (fail)
                  go_wp2_with fail
                  go_ret2
                  rw [← HQ.out]
                  exact ⟨rfl, drewN_below BB.out _⟩
                · have k2 : decide ((191 : Int) < (d.toNat : Int)) = false := by simp; omega
                  have RB2 : Hid (runB (n - (i + 1)) (if i + 1 = 1 then lo else 128) (if i + 1 = 1 then hi else 191) (t.drop (i + 1 - 1)) = RB) := Lib.hid (by
                    rw [hm2, if_neg (by omega), if_neg (by omega)]
                    have k3 : decide (128 ≤ d.toNat) = true := by simp; omega
                    have k4 : decide (d.toNat ≤ 191) = true := by simp; omega
                    rw [k3, k4] at hst
                    exact hst)
                  clear hst hlo hhi hm1 hm2 RBE
                  go_wp2_with fail
                  go_quiet (fail)
                  go_wp2_with fail
                  go_roundg (5 - (i + 1))
                  case measure => omega
                  case rel => exact ⟨i + 1, by omega, by omega, by omega, rfl, by go_num, RB2.out, drewN_below BB.out _⟩
          · have j2 : ¬ (i : Int) < (t.length : Int) + 1 := by omega
            have hrb : RB = true := by rw [← RBE.out]; rw [List.drop_eq_nil_of_le (by omega)]; exact runB_nil _ _ _
            rw [hrb, if_pos rfl] at HQ
            clear RBE hrb NC SC HS
            by_cases hl : t.length + 1 < n
            · have k1 : (t.length : Int) + 1 < (n : Int) := by omega
              have e1 : min (t.length + 1) n = t.length + 1 := by omega
              rw [e1] at HQ
              clear e1 hl
              go_wp2_with fail
              go_ret2
              rw [← HQ.out]
              exact ⟨rfl, BB.out⟩
            · have k1 : ¬ (t.length : Int) + 1 < (n : Int) := by omega
              have e1 : min (t.length + 1) n = n := by omega
              rw [e1] at HQ
              clear e1 hl
              go_wp2_with fail
              go_ret2
              rw [← HQ.out]
              exact ⟨rfl, BB.out⟩
        · have j1 : ¬ (i : Int) < (n : Int) := by omega
          have hrb : RB = true := by rw [← RBE.out]; rw [show n - i = 0 by omega]; rfl
          rw [hrb, if_pos rfl] at HQ
          clear RBE hrb NC SC HS
          by_cases hl : t.length + 1 < n
          · have k1 : (t.length : Int) + 1 < (n : Int) := by omega
            have e1 : min (t.length + 1) n = t.length + 1 := by omega
            rw [e1] at HQ
            clear e1 hl
            go_wp2_with fail
            go_ret2
            rw [← HQ.out]
            exact ⟨rfl, BB.out⟩
          · have k1 : ¬ (t.length : Int) + 1 < (n : Int) := by omega
            have e1 : min (t.length + 1) n = n := by omega
            rw [e1] at HQ
            clear e1 hl
            go_wp2_with fail
            go_ret2
            rw [← HQ.out]
            exact ⟨rfl, BB.out⟩
/-- The first rune of bytes, and of how many it is. -/
def firstG (l : List UInt8) : Gt := if (firstF l).2 = 0 then (65533, 1) else firstF l
theorem need_le (c : Nat) (h : c < 256) : needN c ≤ 4 := by
  rcases need_cases c h with ⟨_, e⟩ | ⟨_, _, e⟩ | ⟨_, _, e⟩ | ⟨_, _, e⟩ | ⟨_, _, e⟩ | ⟨_, e⟩ <;> omega
theorem more_need {c : Nat} (h : c < 256) (hn : needN c ≠ 0) : (moreF c).1 = (needN c : Int) - 1 ∧ 0 ≤ (moreF c).1 := by
  have := (more_range c).1
  unfold needN at hn ⊢
  omega
theorem need_zero {c : Nat} (hn : needN c = 0) : (moreF c).1 < 0 := by
  have := (more_range c).1
  unfold needN at hn
  omega
theorem first_bad {c : UInt8} {t : List UInt8} (h : (fitsF (c :: t)).1 = 0 ∨ (fitsF (c :: t)).1 < (fitsF (c :: t)).2) : (firstF (c :: t)).2 = 0 := by
  have hc : c.toNat < 256 := c.toNat_lt
  have hn4 := need_le c.toNat hc
  simp only [fitsF] at h
  simp only [firstF]
  by_cases h0 : needN c.toNat = 0
  · rw [if_pos (need_zero h0)]
  · obtain ⟨m1, m2⟩ := more_need hc h0
    rw [if_neg (by omega)]
    rw [if_neg h0] at h
    cases hg : contGo (moreF c.toNat).1.toNat (start (moreF c.toNat).1 c.toNat) (moreF c.toNat).2.1 (moreF c.toNat).2.2 t with
    | none => rfl
    | some x =>
      exfalso
      obtain ⟨r1, r2⟩ := (cont_run _ _ _ _ _).1 ⟨x, hg⟩
      by_cases h2 : 2 ≤ needN c.toNat
      · rw [sec_more h2 hc, show (moreF c.toNat).1.toNat = needN c.toNat - 1 by omega] at r1
        rw [if_pos r1] at h
        simp only at h
        omega
      · have e1 : needN c.toNat = 1 := by omega
        rw [e1] at h
        rw [if_pos (show runB (1 - 1) _ _ t = true from rfl)] at h
        simp only at h
        omega
theorem first_good {c : UInt8} {t : List UInt8} (h : ¬ ((fitsF (c :: t)).1 = 0 ∨ (fitsF (c :: t)).1 < (fitsF (c :: t)).2)) :
    ∃ n, fitsF (c :: t) = (n, n) ∧ n = needN c.toNat ∧ 1 ≤ n ∧ n ≤ 4 ∧ n ≤ t.length + 1 ∧ ∃ x, contGo (n - 1) (start ((n : Int) - 1) c.toNat) (moreF c.toNat).2.1 (moreF c.toNat).2.2 t = some x ∧ firstG (c :: t) = (x, (n : Int)) := by
  have hc : c.toNat < 256 := c.toNat_lt
  have hn4 := need_le c.toNat hc
  simp only [fitsF] at h ⊢
  by_cases h0 : needN c.toNat = 0
  · rw [if_pos h0] at h
    simp at h
  · rw [if_neg h0] at h ⊢
    obtain ⟨m1, m2⟩ := more_need hc h0
    by_cases hr : runB (needN c.toNat - 1) (secR c.toNat).1 (secR c.toNat).2 t = true
    · rw [if_pos hr] at h ⊢
      simp only at h
      have hl : needN c.toNat ≤ t.length + 1 := by omega
      refine ⟨needN c.toNat, by rw [Nat.min_eq_right hl], rfl, by omega, hn4, hl, ?_⟩
      have hrun : runB (needN c.toNat - 1) (moreF c.toNat).2.1 (moreF c.toNat).2.2 t = true := by
        by_cases h2 : 2 ≤ needN c.toNat
        · rw [sec_more h2 hc]; exact hr
        · rw [show needN c.toNat - 1 = 0 by omega]; rfl
      obtain ⟨x, hx⟩ := (cont_run (needN c.toNat - 1) (moreF c.toNat).2.1 (moreF c.toNat).2.2 (start ((needN c.toNat : Int) - 1) c.toNat) t).2 ⟨hrun, by omega⟩
      refine ⟨x, hx, ?_⟩
      have hf : firstF (c :: t) = (x, (needN c.toNat : Int)) := by
        simp only [firstF]
        rw [if_neg (by omega), m1, show ((needN c.toNat : Int) - 1).toNat = needN c.toNat - 1 by omega, hx]
        simp
      unfold firstG
      rw [hf, if_neg (by simp only; omega)]
    · rw [if_neg hr] at h
      simp at h
/-- What the bytes of a rune say. -/
theorem cont_val1 {r lo hi x} {b : UInt8} {t : List UInt8} (h : contGo 1 r lo hi (b :: t) = some x) : x = r * 64 + (b.toNat % 64 : Nat) := by
  rw [contGo] at h
  split at h
  · cases h
  · rw [contGo] at h
    simpa [eq_comm] using h
theorem cont_val2 {r lo hi x} {b d : UInt8} {t : List UInt8} (h : contGo 2 r lo hi (b :: d :: t) = some x) : x = (r * 64 + (b.toNat % 64 : Nat)) * 64 + (d.toNat % 64 : Nat) := by
  rw [contGo] at h
  split at h
  · cases h
  · simpa using cont_val1 h
theorem cont_val3 {r lo hi x} {b d f : UInt8} {t : List UInt8} (h : contGo 3 r lo hi (b :: d :: f :: t) = some x) : x = ((r * 64 + (b.toNat % 64 : Nat)) * 64 + (d.toNat % 64 : Nat)) * 64 + (f.toNat % 64 : Nat) := by
  rw [contGo] at h
  split at h
  · cases h
  · simpa using cont_val2 h
theorem set_below2 {w w2 : World} {Nb : Nat} {u v : Value} (h : Below w.heap.size w w2) (e : w.heap.size = Nb) : Below w.heap.size w ((w2.setCell ⟨Nb, 0, none⟩ u).setCell ⟨Nb, 1, none⟩ v) :=
  (h.setCell (p := ⟨Nb, 0, none⟩) (Nat.le_of_eq e) _).setCell (p := ⟨Nb, 1, none⟩) (Nat.le_of_eq e) _
def GotPost (w : World) (g : Gt) (e : Ending) (w' : World) : Prop := e = .returned (.agg #[.int .i32 g.1, .int .i64 g.2]) ∧ Below w.heap.size w w'
theorem got_eq {a b n : Int} (h : a = b) : Ending.returned (.agg #[.int .i32 a, .int .i64 n]) = .returned (.agg #[.int .i32 b, .int .i64 n]) := by rw [h]
set_option maxHeartbeats 8000000 in
set_option maxRecDepth 100000 in
theorem firstRC (a : Option Addr) (l : List UInt8) (cap : Nat) (w : World) (h : Rd eB w a l cap) (hne : l ≠ []) : Calls Tryz.prog 33 #[.slice a l.length cap] w (GotPost w (firstG l)) := by
  have hm := h.max
  have hle := h.le
  unfold maxLen at hm
  have H := Lib.hid h
  have HF := Lib.hid (fun w' h => fitsC a l cap w' h)
  clear h
  obtain ⟨c, t, rfl⟩ := List.exists_cons_of_ne_nil hne
  obtain ⟨b, off, rfl, c0⟩ := cell_byte H.out (i := 0) (x := c) rfl
  simp only [Nat.add_zero] at c0
  have hlen : (c :: t).length = t.length + 1 := rfl
  have b0 := (Below.refl w.heap.size w).alloc (Nat.le_refl _) (.cells #[.int .i32 0, .int .i64 0] 46)
  have B0 := Lib.hid b0
  have F0 := Lib.hid (HF.out _ (H.out.kept b0))
  clear b0 HF
  by_cases hb : (fitsF (c :: t)).1 = 0 ∨ (fitsF (c :: t)).1 < (fitsF (c :: t)).2
  · have hg : firstG (c :: t) = (65533, 1) := by unfold firstG; rw [if_pos (first_bad hb)]
    rw [hg]
    rw [hlen] at F0 ⊢
    generalize fitsF (c :: t) = q at F0 hb
    obtain ⟨k, n⟩ := q
    simp only at hb
    clear hg hlen hne
    have hk : k = 0 ∨ (¬ k = 0 ∧ k < n) := by omega
    rcases hk with hk | ⟨hk, hkn⟩
    · subst hk
      clear hb
      go_enter Tryz.func33, Tryz.ntmps33
      go_wp2_with fail
      refine F0.out.mono ?_
      rintro e w2 ⟨rfl, b2⟩
      have NB := Lib.hid ((b2.block w.heap.size (by simp)).trans (heap_alloc_new w _))
      have B2 := Lib.hid (B0.out.trans (b2.mono (by simp)))
      have hbn : b ≠ w.heap.size := by have := cell_lt c0; simp only at this; omega
      have d0 := cell_of_obj (o := 0) (u := .int .i32 0) NB.out rfl
      have d1 := cell_of_obj (o := 1) (u := .int .i64 0) NB.out rfl
      have z0 := frozen_of_obj (o := 0) NB.out
      have z1 := frozen_of_obj (o := 1) NB.out
      have hP := Nat.le_refl w.heap.size
      clear b2
      generalize hNb : w.heap.size = Nb at NB d0 d1 z0 z1 hbn ⊢
      go_wp2_with fail
      exact bodyPost_ret (v := .agg #[.int .i32 65533, .int .i64 1]) (by simp [results, Tryz.results33, d0, d1, go_sem]) rfl ⟨rfl, set_below2 B2.out hNb⟩
    · have n1 : ((k : Int) == 0) = false := by rw [beq_eq_false_iff_ne]; omega
      have n2 : decide (k < n) = true := by simp; omega
      clear hb hk hkn
      go_enter Tryz.func33, Tryz.ntmps33
      go_wp2_with fail
      refine F0.out.mono ?_
      rintro e w2 ⟨rfl, b2⟩
      have NB := Lib.hid ((b2.block w.heap.size (by simp)).trans (heap_alloc_new w _))
      have B2 := Lib.hid (B0.out.trans (b2.mono (by simp)))
      have hbn : b ≠ w.heap.size := by have := cell_lt c0; simp only at this; omega
      have d0 := cell_of_obj (o := 0) (u := .int .i32 0) NB.out rfl
      have d1 := cell_of_obj (o := 1) (u := .int .i64 0) NB.out rfl
      have z0 := frozen_of_obj (o := 0) NB.out
      have z1 := frozen_of_obj (o := 1) NB.out
      have hP := Nat.le_refl w.heap.size
      clear b2
      generalize hNb : w.heap.size = Nb at NB d0 d1 z0 z1 hbn ⊢
      go_wp2_with fail
      exact bodyPost_ret (v := .agg #[.int .i32 65533, .int .i64 1]) (by simp [results, Tryz.results33, d0, d1, go_sem]) rfl ⟨rfl, set_below2 B2.out hNb⟩
  · obtain ⟨n, hf, -, h1, h4, hl, x, hx, hg⟩ := first_good hb
    rw [hg]
    rw [hlen] at F0 ⊢
    rw [hf] at F0
    have hcx : c.toNat < 256 := c.toNat_lt
    clear hb hf hg hne hlen
    rcases (by omega : n = 1 ∨ n = 2 ∨ n = 3 ∨ n = 4) with rfl | rfl | rfl | rfl
    · have ex : x = (c.toNat : Int) := by
        have : contGo 0 (start 0 c.toNat) (moreF c.toNat).2.1 (moreF c.toNat).2.2 t = some x := hx
        rw [contGo] at this
        simpa [start, eq_comm] using this
      subst ex
      clear hx
      go_enter Tryz.func33, Tryz.ntmps33
      go_wp2_with fail
      refine F0.out.mono ?_
      rintro e w2 ⟨rfl, b2⟩
      have NB := Lib.hid ((b2.block w.heap.size (by simp)).trans (heap_alloc_new w _))
      have B2 := Lib.hid (B0.out.trans (b2.mono (by simp)))
      have hbn : b ≠ w.heap.size := by have := cell_lt c0; simp only at this; omega
      have d0 := cell_of_obj (o := 0) (u := .int .i32 0) NB.out rfl
      have d1 := cell_of_obj (o := 1) (u := .int .i64 0) NB.out rfl
      have z0 := frozen_of_obj (o := 0) NB.out
      have z1 := frozen_of_obj (o := 1) NB.out
      have hP := Nat.le_refl w.heap.size
      clear b2
      generalize hNb : w.heap.size = Nb at NB d0 d1 z0 z1 hbn ⊢
      have e0 := ((B2.out.block b (cell_lt c0)))
      have e1 : w2.cell? ⟨b, off, none⟩ = some (.int .u8 c.toNat) := (World.cell?_of_block (a := ⟨b, off, none⟩) e0).trans c0
      clear e0
      go_wp2_with fail
      exact bodyPost_ret (v := .agg #[.int .i32 c.toNat, .int .i64 1]) (by simp [results, Tryz.results33, d0, d1, go_sem]) rfl ⟨rfl, set_below2 B2.out hNb⟩
    · obtain ⟨b1, t2, rfl⟩ : ∃ b1 t2, t = b1 :: t2 := by
        obtain ⟨b1, t0', rfl⟩ := List.exists_cons_of_ne_nil (l := t) (by rintro rfl; simp at hl)
        exact ⟨_, _, rfl⟩
      have ex := cont_val1 hx
      have es : start (((2 : Nat) : Int) - 1) c.toNat = ((c.toNat % 32 : Nat) : Int) := rfl
      rw [es] at ex
      subst ex
      clear hx es
      obtain ⟨x0, y0, e0, q0⟩ := cell_byte H.out (i := 1) (x := b1) rfl
      simp only [Option.some.injEq, Addr.mk.injEq, and_true] at e0
      obtain ⟨rfl, rfl⟩ := e0
      have g0 : b1.toNat < 256 := b1.toNat_lt
      have a0 : bits .and .u8 (c.toNat : Int) 31 = (c.toNat : Int) % 32 := u8_and31 _ (by omega) (by omega)
      have a1 : bits .and .u8 (b1.toNat : Int) 63 = (b1.toNat : Int) % 64 := u8_and63 _ (by omega) (by omega)
      have r1 : bits .or .i32 ((c.toNat : Int) % 32 * 64) ((b1.toNat : Int) % 64) = (c.toNat : Int) % 32 * 64 + (b1.toNat : Int) % 64 := i32_or6 _ _ (by omega) (by omega) (by omega) (by omega) (by omega)
      have s0 : (0 : Int) ≤ (c.toNat : Int) % 32 ∧ (c.toNat : Int) % 32 < 32 := by omega
      have s1 : (0 : Int) ≤ (b1.toNat : Int) % 64 ∧ (b1.toNat : Int) % 64 < 64 := by omega
      go_enter Tryz.func33, Tryz.ntmps33
      go_wp2_with fail
      refine F0.out.mono ?_
      rintro e w2 ⟨rfl, b2⟩
      have NB := Lib.hid ((b2.block w.heap.size (by simp)).trans (heap_alloc_new w _))
      have B2 := Lib.hid (B0.out.trans (b2.mono (by simp)))
      have hbn : b ≠ w.heap.size := by have := cell_lt c0; simp only at this; omega
      have d0 := cell_of_obj (o := 0) (u := .int .i32 0) NB.out rfl
      have d1 := cell_of_obj (o := 1) (u := .int .i64 0) NB.out rfl
      have z0 := frozen_of_obj (o := 0) NB.out
      have z1 := frozen_of_obj (o := 1) NB.out
      have hP := Nat.le_refl w.heap.size
      clear b2
      generalize hNb : w.heap.size = Nb at NB d0 d1 z0 z1 hbn ⊢
      have e0 := ((B2.out.block _ (cell_lt c0)))
      have k0 : w2.cell? ⟨b, off, none⟩ = some (.int .u8 c.toNat) := (World.cell?_of_block (a := ⟨b, off, none⟩) e0).trans c0
      have k1 : w2.cell? ⟨b, off + 1, none⟩ = some (.int .u8 b1.toNat) := (World.cell?_of_block (a := ⟨b, off + 1, none⟩) e0).trans q0
      clear e0 q0 c0
      go_wp2_with fail
      go_quiet (fail)
      go_wp2_with fail
      refine bodyPost_ret (v := .agg #[.int .i32 ((c.toNat : Int) % 32 * 64 + (b1.toNat : Int) % 64), .int .i64 2]) (by simp [results, Tryz.results33, d0, d1, go_sem]) rfl ⟨?_, set_below2 (drewN_below B2.out _) hNb⟩
      refine got_eq ?_
      simp only
      omega
    · obtain ⟨b1, b2, t2, rfl⟩ : ∃ b1 b2 t2, t = b1 :: b2 :: t2 := by
        obtain ⟨b1, t0', rfl⟩ := List.exists_cons_of_ne_nil (l := t) (by rintro rfl; simp at hl)
        obtain ⟨b2, t1', rfl⟩ := List.exists_cons_of_ne_nil (l := t0') (by rintro rfl; simp at hl)
        exact ⟨_, _, _, rfl⟩
      have ex := cont_val2 hx
      have es : start (((3 : Nat) : Int) - 1) c.toNat = ((c.toNat % 16 : Nat) : Int) := rfl
      rw [es] at ex
      subst ex
      clear hx es
      obtain ⟨x0, y0, e0, q0⟩ := cell_byte H.out (i := 1) (x := b1) rfl
      simp only [Option.some.injEq, Addr.mk.injEq, and_true] at e0
      obtain ⟨rfl, rfl⟩ := e0
      have g0 : b1.toNat < 256 := b1.toNat_lt
      obtain ⟨x1, y1, e1, q1⟩ := cell_byte H.out (i := 2) (x := b2) rfl
      simp only [Option.some.injEq, Addr.mk.injEq, and_true] at e1
      obtain ⟨rfl, rfl⟩ := e1
      have g1 : b2.toNat < 256 := b2.toNat_lt
      have a0 : bits .and .u8 (c.toNat : Int) 15 = (c.toNat : Int) % 16 := u8_and15 _ (by omega) (by omega)
      have a1 : bits .and .u8 (b1.toNat : Int) 63 = (b1.toNat : Int) % 64 := u8_and63 _ (by omega) (by omega)
      have a2 : bits .and .u8 (b2.toNat : Int) 63 = (b2.toNat : Int) % 64 := u8_and63 _ (by omega) (by omega)
      have r1 : bits .or .i32 ((c.toNat : Int) % 16 * 4096) ((b1.toNat : Int) % 64 * 64) = (c.toNat : Int) % 16 * 4096 + (b1.toNat : Int) % 64 * 64 := i32_or12 _ _ (by omega) (by omega) (by omega) (by omega) (by omega)
      have r2 : bits .or .i32 ((c.toNat : Int) % 16 * 4096 + (b1.toNat : Int) % 64 * 64) ((b2.toNat : Int) % 64) = (c.toNat : Int) % 16 * 4096 + (b1.toNat : Int) % 64 * 64 + (b2.toNat : Int) % 64 := i32_or6 _ _ (by omega) (by omega) (by omega) (by omega) (by omega)
      have s0 : (0 : Int) ≤ (c.toNat : Int) % 16 ∧ (c.toNat : Int) % 16 < 16 := by omega
      have s1 : (0 : Int) ≤ (b1.toNat : Int) % 64 ∧ (b1.toNat : Int) % 64 < 64 := by omega
      have s2 : (0 : Int) ≤ (b2.toNat : Int) % 64 ∧ (b2.toNat : Int) % 64 < 64 := by omega
      go_enter Tryz.func33, Tryz.ntmps33
      go_wp2_with fail
      refine F0.out.mono ?_
      rintro e w2 ⟨rfl, b2⟩
      have NB := Lib.hid ((b2.block w.heap.size (by simp)).trans (heap_alloc_new w _))
      have B2 := Lib.hid (B0.out.trans (b2.mono (by simp)))
      have hbn : b ≠ w.heap.size := by have := cell_lt c0; simp only at this; omega
      have d0 := cell_of_obj (o := 0) (u := .int .i32 0) NB.out rfl
      have d1 := cell_of_obj (o := 1) (u := .int .i64 0) NB.out rfl
      have z0 := frozen_of_obj (o := 0) NB.out
      have z1 := frozen_of_obj (o := 1) NB.out
      have hP := Nat.le_refl w.heap.size
      clear b2
      generalize hNb : w.heap.size = Nb at NB d0 d1 z0 z1 hbn ⊢
      have e0 := ((B2.out.block _ (cell_lt c0)))
      have k0 : w2.cell? ⟨b, off, none⟩ = some (.int .u8 c.toNat) := (World.cell?_of_block (a := ⟨b, off, none⟩) e0).trans c0
      have k1 : w2.cell? ⟨b, off + 1, none⟩ = some (.int .u8 b1.toNat) := (World.cell?_of_block (a := ⟨b, off + 1, none⟩) e0).trans q0
      have k2 : w2.cell? ⟨b, off + 2, none⟩ = some (.int .u8 b2.toNat) := (World.cell?_of_block (a := ⟨b, off + 2, none⟩) e0).trans q1
      clear e0 q0 q1 c0
      go_wp2_with fail
      go_quiet (fail)
      go_wp2_with fail
      refine bodyPost_ret (v := .agg #[.int .i32 ((c.toNat : Int) % 16 * 4096 + (b1.toNat : Int) % 64 * 64 + (b2.toNat : Int) % 64), .int .i64 3]) (by simp [results, Tryz.results33, d0, d1, go_sem]) rfl ⟨?_, set_below2 (drewN_below B2.out _) hNb⟩
      refine got_eq ?_
      simp only
      omega
    · obtain ⟨b1, b2, b3, t2, rfl⟩ : ∃ b1 b2 b3 t2, t = b1 :: b2 :: b3 :: t2 := by
        obtain ⟨b1, t0', rfl⟩ := List.exists_cons_of_ne_nil (l := t) (by rintro rfl; simp at hl)
        obtain ⟨b2, t1', rfl⟩ := List.exists_cons_of_ne_nil (l := t0') (by rintro rfl; simp at hl)
        obtain ⟨b3, t2', rfl⟩ := List.exists_cons_of_ne_nil (l := t1') (by rintro rfl; simp at hl)
        exact ⟨_, _, _, _, rfl⟩
      have ex := cont_val3 hx
      have es : start (((4 : Nat) : Int) - 1) c.toNat = ((c.toNat % 8 : Nat) : Int) := rfl
      rw [es] at ex
      subst ex
      clear hx es
      obtain ⟨x0, y0, e0, q0⟩ := cell_byte H.out (i := 1) (x := b1) rfl
      simp only [Option.some.injEq, Addr.mk.injEq, and_true] at e0
      obtain ⟨rfl, rfl⟩ := e0
      have g0 : b1.toNat < 256 := b1.toNat_lt
      obtain ⟨x1, y1, e1, q1⟩ := cell_byte H.out (i := 2) (x := b2) rfl
      simp only [Option.some.injEq, Addr.mk.injEq, and_true] at e1
      obtain ⟨rfl, rfl⟩ := e1
      have g1 : b2.toNat < 256 := b2.toNat_lt
      obtain ⟨x2, y2, e2, q2⟩ := cell_byte H.out (i := 3) (x := b3) rfl
      simp only [Option.some.injEq, Addr.mk.injEq, and_true] at e2
      obtain ⟨rfl, rfl⟩ := e2
      have g2 : b3.toNat < 256 := b3.toNat_lt
      have a0 : bits .and .u8 (c.toNat : Int) 7 = (c.toNat : Int) % 8 := u8_and7 _ (by omega) (by omega)
      have a1 : bits .and .u8 (b1.toNat : Int) 63 = (b1.toNat : Int) % 64 := u8_and63 _ (by omega) (by omega)
      have a2 : bits .and .u8 (b2.toNat : Int) 63 = (b2.toNat : Int) % 64 := u8_and63 _ (by omega) (by omega)
      have a3 : bits .and .u8 (b3.toNat : Int) 63 = (b3.toNat : Int) % 64 := u8_and63 _ (by omega) (by omega)
      have r1 : bits .or .i32 ((c.toNat : Int) % 8 * 262144) ((b1.toNat : Int) % 64 * 4096) = (c.toNat : Int) % 8 * 262144 + (b1.toNat : Int) % 64 * 4096 := i32_or18 _ _ (by omega) (by omega) (by omega) (by omega) (by omega)
      have r2 : bits .or .i32 ((c.toNat : Int) % 8 * 262144 + (b1.toNat : Int) % 64 * 4096) ((b2.toNat : Int) % 64 * 64) = (c.toNat : Int) % 8 * 262144 + (b1.toNat : Int) % 64 * 4096 + (b2.toNat : Int) % 64 * 64 := i32_or12 _ _ (by omega) (by omega) (by omega) (by omega) (by omega)
      have r3 : bits .or .i32 ((c.toNat : Int) % 8 * 262144 + (b1.toNat : Int) % 64 * 4096 + (b2.toNat : Int) % 64 * 64) ((b3.toNat : Int) % 64) = (c.toNat : Int) % 8 * 262144 + (b1.toNat : Int) % 64 * 4096 + (b2.toNat : Int) % 64 * 64 + (b3.toNat : Int) % 64 := i32_or6 _ _ (by omega) (by omega) (by omega) (by omega) (by omega)
      have s0 : (0 : Int) ≤ (c.toNat : Int) % 8 ∧ (c.toNat : Int) % 8 < 8 := by omega
      have s1 : (0 : Int) ≤ (b1.toNat : Int) % 64 ∧ (b1.toNat : Int) % 64 < 64 := by omega
      have s2 : (0 : Int) ≤ (b2.toNat : Int) % 64 ∧ (b2.toNat : Int) % 64 < 64 := by omega
      have s3 : (0 : Int) ≤ (b3.toNat : Int) % 64 ∧ (b3.toNat : Int) % 64 < 64 := by omega
      go_enter Tryz.func33, Tryz.ntmps33
      go_wp2_with fail
      refine F0.out.mono ?_
      rintro e w2 ⟨rfl, b2⟩
      have NB := Lib.hid ((b2.block w.heap.size (by simp)).trans (heap_alloc_new w _))
      have B2 := Lib.hid (B0.out.trans (b2.mono (by simp)))
      have hbn : b ≠ w.heap.size := by have := cell_lt c0; simp only at this; omega
      have d0 := cell_of_obj (o := 0) (u := .int .i32 0) NB.out rfl
      have d1 := cell_of_obj (o := 1) (u := .int .i64 0) NB.out rfl
      have z0 := frozen_of_obj (o := 0) NB.out
      have z1 := frozen_of_obj (o := 1) NB.out
      have hP := Nat.le_refl w.heap.size
      clear b2
      generalize hNb : w.heap.size = Nb at NB d0 d1 z0 z1 hbn ⊢
      have e0 := ((B2.out.block _ (cell_lt c0)))
      have k0 : w2.cell? ⟨b, off, none⟩ = some (.int .u8 c.toNat) := (World.cell?_of_block (a := ⟨b, off, none⟩) e0).trans c0
      have k1 : w2.cell? ⟨b, off + 1, none⟩ = some (.int .u8 b1.toNat) := (World.cell?_of_block (a := ⟨b, off + 1, none⟩) e0).trans q0
      have k2 : w2.cell? ⟨b, off + 2, none⟩ = some (.int .u8 b2.toNat) := (World.cell?_of_block (a := ⟨b, off + 2, none⟩) e0).trans q1
      have k3 : w2.cell? ⟨b, off + 3, none⟩ = some (.int .u8 b3.toNat) := (World.cell?_of_block (a := ⟨b, off + 3, none⟩) e0).trans q2
      clear e0 q0 q1 q2 c0
      go_wp2_with fail
      go_quiet (fail)
      go_wp2_with fail
      refine bodyPost_ret (v := .agg #[.int .i32 ((c.toNat : Int) % 8 * 262144 + (b1.toNat : Int) % 64 * 4096 + (b2.toNat : Int) % 64 * 64 + (b3.toNat : Int) % 64), .int .i64 4]) (by simp [results, Tryz.results33, d0, d1, go_sem]) rfl ⟨?_, set_below2 (drewN_below B2.out _) hNb⟩
      refine got_eq ?_
      simp only
      omega
end Go.Proofs.YtooockbfagkknaaGreatDoor.syn
/- spoorref7.All. -/
namespace Go.Proofs.YtooockbfagkknaaGreatDoor.syn
open Go.RowKit Go.Proofs.YtooockbfagkknaaGreatDoor.sl Go.Proofs.YtooockbfagkknaaGreatDoor.cls
theorem got_kept {w w4 : World} {P : Nat} {o o2 : Obj} {v : Value} (h : w.heap[P]? = some o) (hv : ∀ k, v.ownBlock = some k → k < P) (g : (w.alloc o2).grownBy w4 v.ownBlock) : w4.heap[P]? = some o := by
  have hP := heap_lt h
  rw [g.block P (by simp; omega) (fun e => by have := hv P e.symm; omega)]
  exact (((Below.refl w.heap.size w).alloc (Nat.le_refl _) o2).block P hP).trans h
theorem allGo_g {n : Nat} {l : List UInt8} (h : l ≠ []) : ∃ m : Nat, (firstG l).2 = m ∧ 1 ≤ m ∧ m ≤ l.length ∧ allGo (n + 1) l = firstG l :: allGo n (l.drop m) := by
  have hp : 0 < l.length := List.length_pos_iff.2 h
  unfold firstG
  rcases firstF_len l with h0 | ⟨m, hm, h1, h2, _⟩
  · rw [if_pos h0]
    exact ⟨1, rfl, Nat.le_refl _, hp, allGo_bad h h0⟩
  · rw [if_neg (by omega)]
    exact ⟨m, hm, h1, h2, allGo_ok h hm h1⟩
set_option maxHeartbeats 8000000 in
set_option maxRecDepth 100000 in
theorem allRC (a : Option Addr) (l : List UInt8) (cap : Nat) (w : World) (h : Rd eB w a l cap) (hl : l.length ≤ 100000) : Calls Tryz.prog 18 #[.slice a l.length cap] w fun e w' => ∃ v, e = .returned v ∧ OwnG w.heap.size w' v (allF l) ∧ Below w.heap.size w w' := by
  have hm := h.max
  have hle := h.le
  unfold maxLen at hm
  have H := Lib.hid h
  clear h
  suffices key : ∀ F, allF l = F → Calls Tryz.prog 18 #[.slice a l.length cap] w fun e w' => ∃ v, e = .returned v ∧ OwnG w.heap.size w' v F ∧ Below w.heap.size w w' from key _ rfl
  intro F hF
  have HF := Lib.hid hF
  clear hF
  go_enter Tryz.func18, Tryz.ntmps18
  go_wp2_with fail
  go_loopg [0, 3] l.length (fun g tb v wr => ∃ (a' : Option Addr) (m : List UInt8) (cap' : Nat) (acc : List Gt), tb = .slice a' m.length cap' ∧ Rd eB w a' m cap' ∧ g = m.length ∧ OwnG w.heap.size wr v acc ∧ Below w.heap.size w wr ∧ acc ++ allGo m.length m = F ∧ acc.length + m.length ≤ l.length)
  case atStart => exact ⟨a, l, cap, [], rfl, H.out, rfl, Own.nil _ _ _ _ _, Below.refl _ _, HF.out, by simp⟩
  case round =>
    clear H HF hm hle
    obtain ⟨a', m, cap', acc, rfl, rd, rfl, o, b, hgo, hlen⟩ := hrel
    have RD := Lib.hid rd
    have O := Lib.hid o
    have B := Lib.hid b
    have GO := Lib.hid hgo
    have hm := rd.max
    have hle := rd.le
    unfold maxLen at hm
    have hs := b.size
    have hacc : acc.length < 1000000000 := by omega
    obtain ⟨va, vc, rfl, -, -⟩ := o.rd
    by_cases hm0 : m = []
    · subst hm0
      have e1 := GO.out
      rw [allGo_nil, List.append_nil] at e1
      have E1 := Lib.hid e1
      clear e1 GO rd o b hgo
      simp only [List.length_nil] at *
      go_wp2_with fail
      go_ret
      rw [← E1.out]
      exact ⟨_, rfl, O.out, B.out⟩
    · have hpos : 0 < m.length := List.length_pos_iff.2 hm0
      obtain ⟨bb, off, rfl⟩ : ∃ bb off, a' = some ⟨bb, off, none⟩ := by
        rcases a' with _ | ad
        · exact absurd (rd.none_ rfl).1 hm0
        · obtain ⟨h1, _, _⟩ := rd.at_ _ rfl (by have := rd.le; omega)
          obtain ⟨bb, off, sp⟩ := ad
          obtain rfl : sp = none := h1
          exact ⟨bb, off, rfl⟩
      obtain ⟨gm, hgm⟩ : ∃ gm, m.length = gm + 1 := ⟨m.length - 1, by omega⟩
      obtain ⟨n, hn, n1, n2, hgo2⟩ := allGo_g (n := gm) hm0
      have e1 := GO.out
      rw [hgm, hgo2] at e1
      have FC := Lib.hid (firstRC (some ⟨bb, off, none⟩) m cap' wr (rd.kept b) hm0)
      have HG := Lib.hid hgm
      clear rd o b hgo GO hgo2 hgm hm0
      generalize firstG m = g at FC hn e1
      obtain ⟨r1, r2⟩ := g
      simp only at hn
      subst hn
      have E1 := Lib.hid e1
      clear e1
      go_wp2_with fail
      refine FC.out.mono ?_
      rintro e w2 ⟨rfl, b2⟩
      have B2 := Lib.hid (B.out.trans (b2.mono hs))
      have O2 := Lib.hid (O.out.below b2 (Nat.le_refl _))
      have hs2 := B2.out.size
      clear b2 FC
      have OL := O2.out.lt
      have P3 := Lib.hid (heap_alloc_new w2 (.cells #[.int .i32 r1, .int .i64 n] 46))
      have OLT : Hid (∀ k, (Value.slice va acc.length vc).ownBlock = some k → k < w2.heap.size) := Lib.hid fun k hk => (OL k hk).2
      clear OL
      have B3 := Lib.hid (B2.out.alloc hs2 (.cells #[.int .i32 r1, .int .i64 n] 46))
      have O3 := Lib.hid (O2.out.alloc (.cells #[.int .i32 r1, .int .i64 n] 46))
      go_upto_region 4 with fail
      clear B2 O2 O B
      generalize hP : w2.heap.size = P at P3 OLT hs2 ⊢
      generalize w2.alloc (.cells #[.int .i32 r1, .int .i64 n] 46) = w3 at P3 B3 O3 ⊢
      have hs3 := B3.out.size
      have hP3 : P < w3.heap.size := heap_lt P3.out
      have d0 := cell_of_obj (o := 0) (u := .int .i32 r1) P3.out rfl
      have d1 := cell_of_obj (o := 1) (u := .int .i64 n) P3.out rfl
      clear hP
      go_wp2_with (at_builtin; go_must (refine wpList_app1 elem_g rfl rfl rfl rfl (by simp) O3.out (r1, (n : Int)) rfl eG_len eG_one hacc (by omega) hs3 ?_; intro v4 w4 o4 g4; have P4 := got_kept P3.out OLT.out g4; have e1 := cell_of_obj (o := 1) (u := .int .i64 n) P4 rfl; have O4 := Lib.hid o4; have B4 := Lib.hid (grow_below B3.out O3.out g4 (Nat.le_refl _) hs3); clear o4 g4))
      all_goals
        go_roundg (m.length - n)
        case measure => omega
        case rel =>
          have hd : (m.drop n).length = m.length - n := by simp
          have rdd := rd_drop (n := n) RD.out (by omega)
          refine ⟨_, m.drop n, cap' - n, acc ++ [(r1, (n : Int))], ?_, (by first | (rw [if_neg (by omega)] at rdd; exact rdd) | (rw [if_pos (by omega)] at rdd; exact rdd)), by omega, O4.out, B4.out, ?_, ?_⟩
          · rw [hd, Value.slice.injEq]; exact ⟨rfl, by omega, by omega⟩
          · have e2 := E1.out
            rw [hd, List.append_assoc]
            have hg := HG.out
            rw [allGo_fuel (m.length - n) gm _ (by simp) (by simp; omega)]
            exact e2
          · rw [hd, List.length_append, List.length_singleton]; omega
end Go.Proofs.YtooockbfagkknaaGreatDoor.syn
