/- utf.more, first, All. -/
import Derived.Test.YtooockbfagkknaaGreatDoorPar6
import Derived.Laws.BitsLemmas
namespace Go.Proofs.YtooockbfagkknaaGreatDoor.syn
open Go.RowKit Go.Proofs.YtooockbfagkknaaGreatDoor.sl Go.Proofs.YtooockbfagkknaaGreatDoor.cls
def moreF (c : Nat) : Int × Nat × Nat :=
  if c < 128 then (0, 0, 0) else if c < 194 then (-1, 0, 0) else if c < 224 then (1, 128, 191) else if c = 224 then (2, 160, 191) else if c = 237 then (2, 128, 159)
  else if c < 240 then (2, 128, 191) else if c = 240 then (3, 144, 191) else if c < 244 then (3, 128, 191) else if c = 244 then (3, 128, 143) else (-1, 0, 0)
set_option maxHeartbeats 4000000 in
set_option maxRecDepth 100000 in
theorem moreC (c : Nat) (h : c < 256) (w : World) : Calls Tryz.prog 48 #[.int .u8 c] w fun e w' => e = .returned (.tuple #[.int .i64 (moreF c).1, .int .u8 (moreF c).2.1, .int .u8 (moreF c).2.2]) ∧ w' = w := by
  suffices key : ∀ r, moreF c = r → Calls Tryz.prog 48 #[.int .u8 c] w fun e w' => e = .returned (.tuple #[.int .i64 r.1, .int .u8 r.2.1, .int .u8 r.2.2]) ∧ w' = w from key _ rfl
  intro r hr
  have HR := Lib.hid hr
  clear hr
  unfold moreF at HR
  go_enter Tryz.func48, Tryz.ntmps48
  go_wp2_with fail
  all_goals
    go_ret3
    refine ⟨?_, rfl⟩
    rw [← HR.out]
    try simp only [beq_iff_eq, beq_eq_false_iff_ne, ne_eq] at *
    first
      | (rw [if_pos (by omega)]; rfl)
      | (rw [if_neg (by omega), if_pos (by omega)]; rfl)
      | (rw [if_neg (by omega), if_neg (by omega), if_pos (by omega)]; rfl)
      | (rw [if_neg (by omega), if_neg (by omega), if_neg (by omega), if_pos (by omega)]; rfl)
      | (rw [if_neg (by omega), if_neg (by omega), if_neg (by omega), if_neg (by omega), if_pos (by omega)]; rfl)
      | (rw [if_neg (by omega), if_neg (by omega), if_neg (by omega), if_neg (by omega), if_neg (by omega), if_pos (by omega)]; rfl)
      | (rw [if_neg (by omega), if_neg (by omega), if_neg (by omega), if_neg (by omega), if_neg (by omega), if_neg (by omega), if_pos (by omega)]; rfl)
      | (rw [if_neg (by omega), if_neg (by omega), if_neg (by omega), if_neg (by omega), if_neg (by omega), if_neg (by omega), if_neg (by omega), if_pos (by omega)]; rfl)
      | (rw [if_neg (by omega), if_neg (by omega), if_neg (by omega), if_neg (by omega), if_neg (by omega), if_neg (by omega), if_neg (by omega), if_neg (by omega), if_pos (by omega)]; rfl)
      | (rw [if_neg (by omega), if_neg (by omega), if_neg (by omega), if_neg (by omega), if_neg (by omega), if_neg (by omega), if_neg (by omega), if_neg (by omega), if_neg (by omega)]; rfl)
/-- What follows the first byte of a rune. -/
def contGo : Nat → Int → Nat → Nat → List UInt8 → Option Int
  | 0, r, _, _, _ => some r
  | _ + 1, _, _, _, [] => none
  | k + 1, r, lo, hi, b :: t => if b.toNat < lo ∨ hi < b.toNat then none else contGo k (r * 64 + b.toNat % 64) 128 191 t
def start (k : Int) (c : Nat) : Int := if k = 0 then c else if k = 1 then (c % 32 : Nat) else if k = 2 then (c % 16 : Nat) else (c % 8 : Nat)
def firstF : List UInt8 → Int × Int
  | [] => (0, 0)
  | c :: t => if (moreF c.toNat).1 < 0 then (0, 0) else match contGo (moreF c.toNat).1.toNat (start (moreF c.toNat).1 c.toNat) (moreF c.toNat).2.1 (moreF c.toNat).2.2 t with
    | some r => (r, (moreF c.toNat).1 + 1)
    | none => (0, 0)
theorem more_range (c : Nat) : ((moreF c).1 = -1 ∨ (moreF c).1 = 0 ∨ (moreF c).1 = 1 ∨ (moreF c).1 = 2 ∨ (moreF c).1 = 3) ∧ (moreF c).2.1 < 256 ∧ (moreF c).2.2 < 256 := by
  unfold moreF
  repeat' split
  all_goals simp
theorem i32_and31 (x : Int) (h0 : 0 ≤ x) (h1 : x < 256) : bits .and .i32 x 31 = x % 32 := bits_mask .i32 31 (by decide) wraps_i32 5 (by decide) x h0 (by omega)
theorem i32_and15 (x : Int) (h0 : 0 ≤ x) (h1 : x < 256) : bits .and .i32 x 15 = x % 16 := bits_mask .i32 31 (by decide) wraps_i32 4 (by decide) x h0 (by omega)
theorem i32_and7 (x : Int) (h0 : 0 ≤ x) (h1 : x < 256) : bits .and .i32 x 7 = x % 8 := bits_mask .i32 31 (by decide) wraps_i32 3 (by decide) x h0 (by omega)
theorem step_or (r : Int) (b : Nat) (h0 : 0 ≤ r) (h1 : r < 131072) (hb : b < 256) : bits .or .i32 (r * 64) (bits .and .u8 b 63) = r * 64 + (b % 64 : Nat) := by
  rw [u8_and63 (b : Int) (by omega) (by omega), i32_or6 (r * 64) ((b : Int) % 64) (by omega) (by omega) (by omega) (by omega) (by omega)]
  omega
theorem cell_byte {w : World} {a : Option Addr} {l : List UInt8} {cap : Nat} (h : Rd eB w a l cap) {i : Nat} {x : UInt8} (hx : l[i]? = some x) : ∃ b off, a = some ⟨b, off, none⟩ ∧ w.cell? ⟨b, off + i, none⟩ = some (.int .u8 x.toNat) := by
  obtain ⟨b, off, e, _, hc⟩ := h.cells eB_len hx
  have := hc 0 (.int .u8 x.toNat) (by omega) rfl
  simp only [Nat.mul_one, Nat.add_zero] at this
  exact ⟨b, off, e, this⟩
theorem firstF_cons (x : UInt8) (t : List UInt8) {n : Nat} {k : Int} {lo hi : Nat} (hn : x.toNat = n) (hm : moreF n = (k, lo, hi)) : firstF (x :: t) = if k < 0 then (0, 0) else match contGo k.toNat (start k n) lo hi t with
    | some r => (r, k + 1)
    | none => (0, 0) := by
  subst hn
  simp only [firstF, hm]
def FirstPost (w : World) (q : Int × Int) (e : Ending) (w' : World) : Prop := ∃ bg, e = .returned (.tuple #[.int .i32 q.1, .int .i64 q.2, .bool bg]) ∧ w' = w
set_option maxHeartbeats 8000000 in
set_option maxRecDepth 100000 in
theorem firstC (a : Option Addr) (l : List UInt8) (cap : Nat) (w : World) (h : Rd eB w a l cap) : Calls Tryz.prog 29 #[.slice a l.length cap] w (FirstPost w (firstF l)) := by
  have hm := h.max
  have hle := h.le
  unfold maxLen at hm
  have H := Lib.hid h
  clear h
  rcases l with _ | ⟨x, t⟩
  · simp only [List.length_nil] at *
    go_enter Tryz.func29, Tryz.ntmps29
    go_wp2_with fail
    go_ret3
    exact ⟨_, rfl, rfl⟩
  · obtain ⟨b, off, rfl, c0⟩ := cell_byte H.out (i := 0) (x := x) rfl
    simp only [Nat.add_zero] at c0
    have hx : x.toNat < 256 := x.toNat_lt
    suffices key : ∀ q, firstF (x :: t) = q → Calls Tryz.prog 29 #[.slice (some ⟨b, off, none⟩) (x :: t).length cap] w (FirstPost w q) from key _ rfl
    intro q hq
    have MR := more_range x.toNat
    have MC := Lib.hid (moreC x.toNat hx w)
    have hlen : (x :: t).length = t.length + 1 := rfl
    obtain ⟨n, hn⟩ : ∃ n, x.toNat = n := ⟨_, rfl⟩
    obtain ⟨m, hmm⟩ : ∃ m, moreF n = m := ⟨_, rfl⟩
    obtain ⟨k, lo, hi⟩ := m
    rw [firstF_cons x t hn hmm] at hq
    have HQ := Lib.hid hq
    rw [hlen]
    rw [hlen] at hle
    rw [hn] at c0 hx MR MC
    rw [hmm] at MR MC
    simp only at MR MC
    have MR := Lib.hid MR
    clear hlen hq hn hmm
    have hlo := MR.out.2.1
    have hhi := MR.out.2.2
    rcases MR.out.1 with rfl | hk
    · rw [if_pos (by decide)] at HQ
      go_enter Tryz.func29, Tryz.ntmps29
      go_wp2_with fail
      refine MC.out.mono ?_
      rintro e w' ⟨rfl, rfl⟩
      go_wp2_with fail
      go_ret3
      rw [← HQ.out]
      exact ⟨_, rfl, rfl⟩
    · have hst : 0 ≤ start k n ∧ (k = 0 → start k n = n) ∧ (k = 0 → start k n < 256) ∧ (k ≠ 0 → start k n < 32) := by
        rcases hk with rfl | rfl | rfl | rfl <;> simp [start] <;> omega
      have HST := Lib.hid hst
      have ST : Hid ((k = 1 → bits .and .i32 n 31 = start k n) ∧ (k = 2 → bits .and .i32 n 15 = start k n) ∧ (k = 3 → bits .and .i32 n 7 = start k n)) := Lib.hid (by
        refine ⟨?_, ?_, ?_⟩ <;> rintro rfl <;> simp only [start]
        · rw [i32_and31 _ (by omega) (by omega)]; simp
        · rw [i32_and15 _ (by omega) (by omega)]; simp
        · rw [i32_and7 _ (by omega) (by omega)]; simp)
      generalize start k n = r0 at HQ HST ST
      rw [if_neg (by rcases hk with h | h | h | h <;> rw [h] <;> decide)] at HQ
      have loop : ∀ (kn : Nat), 1 ≤ kn → kn ≤ 3 → k = kn → ∀ (Rr : Option Int), contGo kn r0 lo hi t = Rr → (match Rr with | some r => (r, (kn : Int) + 1) | none => ((0 : Int), (0 : Int))) = q →
          ∀ (hand : bits .and .i32 n (match kn with | 1 => 31 | 2 => 15 | _ => 7) = r0), Calls Tryz.prog 29 #[.slice (some ⟨b, off, none⟩) (t.length + 1) cap] w (FirstPost w q) := by
        intro kn h1 h3 hkn Rr hR hq2 hand
        subst hkn
        have HAND := Lib.hid hand
        have HQ2 := Lib.hid hq2
        have HRR := Lib.hid hR
        have hr0 : 0 ≤ r0 ∧ r0 < 32 := ⟨HST.out.1, HST.out.2.2.2 (by omega)⟩
        obtain ⟨hr0a, hr0b⟩ := hr0
        clear hand hq2 hR hk hst HQ ST HST
        have LP : True := trivial
        rcases (by omega : kn = 1 ∨ kn = 2 ∨ kn = 3) with rfl | rfl | rfl
        · simp only at HAND
          go_enter Tryz.func29, Tryz.ntmps29
          go_wp2_with fail
          refine MC.out.mono ?_
          rintro e w' ⟨rfl, rfl⟩
          go_wp2_with fail
          rw [HAND.out]
          go_loopg [2, 6, 7, 8] (1 + 1 - 1) (fun g tr tl th ti wr => ∃ (j : Nat) (r : Int) (l1 h1 : Nat), g = 1 + 1 - j ∧ tr = .int .i32 r ∧ tl = .int .u8 l1 ∧ th = .int .u8 h1 ∧ ti = .int .i64 j ∧ 1 ≤ j ∧ j ≤ 1 + 1 ∧ l1 < 256 ∧ h1 < 256 ∧ wr = w' ∧ 0 ≤ r ∧ (j = 1 ∧ r < 32 ∨ j = 2 ∧ r < 2048 ∨ j = 3 ∧ r < 131072 ∨ j = 4 ∧ r < 8388608) ∧ contGo (1 + 1 - j) r l1 h1 (t.drop (j - 1)) = Rr)
          case atStart => exact ⟨1, r0, lo, hi, rfl, rfl, rfl, rfl, rfl, by omega, by omega, hlo, hhi, rfl, hr0a, .inl ⟨rfl, hr0b⟩, HRR.out⟩
          case round =>
            obtain ⟨j, r, l1, h1, rfl, rfl, rfl, rfl, rfl, j1, j2, hl1, hh1, rfl, hr, hrb, hgo⟩ := hrel
            have GO := Lib.hid hgo
            clear hgo
            by_cases hj : j ≤ 1
            · have i1 : (j : Int) ≤ 1 := by omega
              by_cases hlen : j < t.length + 1
              · have i2 : (j : Int) < (t.length : Int) + 1 := by omega
                obtain ⟨y, hy⟩ : ∃ y, t[j - 1]? = some y := ⟨_, List.getElem?_eq_getElem (by omega)⟩
                have hy2 : (x :: t)[j]? = some y := by
                  obtain ⟨j', rfl⟩ : ∃ j', j = j' + 1 := ⟨j - 1, by omega⟩
                  simpa using hy
                obtain ⟨b', off', e', cj⟩ := cell_byte H.out hy2
                cases e'
                have hdr : t.drop (j - 1) = y :: t.drop j := by
                  rw [List.drop_eq_getElem_cons (by omega)]
                  have : t[j - 1] = y := by
                    have := List.getElem?_eq_getElem (l := t) (i := j - 1) (by omega)
                    rw [this] at hy
                    exact Option.some.inj hy
                  rw [this, show j - 1 + 1 = j by omega]
                have hyl : y.toNat < 256 := y.toNat_lt
                have go1 := GO.out
                obtain ⟨m, hm1⟩ : ∃ m, 1 + 1 - j = m + 1 := ⟨1 - j, by omega⟩
                rw [hdr, hm1, contGo] at go1
                have SO := step_or r y.toNat hr (by omega) hyl
                generalize y.toNat = yn at cj hyl go1 SO
                have G1 := Lib.hid go1
                have HM := Lib.hid hm1
                have SOH := Lib.hid SO
                clear hy hy2 hdr go1 GO hm1 SO
                by_cases hbad : yn < l1 ∨ h1 < yn
                · have g1 := G1.out
                  rw [if_pos hbad] at g1
                  have G2 := Lib.hid g1
                  clear g1 G1
                  by_cases hb1 : yn < l1
                  · have d1 : decide ((yn : Int) < (l1 : Int)) = true := by simpa using hb1
                    go_wp2_with fail
                    go_ret3
                    rw [← HQ2.out, ← G2.out]
                    exact ⟨_, rfl, rfl⟩
                  · have d1 : decide ((yn : Int) < (l1 : Int)) = false := by simpa using hb1
                    have hb2 : h1 < yn := by omega
                    have d2 : decide ((h1 : Int) < (yn : Int)) = true := by simpa using hb2
                    go_wp2_with fail
                    go_ret3
                    rw [← HQ2.out, ← G2.out]
                    exact ⟨_, rfl, rfl⟩
                · have g1 := G1.out
                  rw [if_neg hbad] at g1
                  have G2 := Lib.hid g1
                  have hb1 : ¬ yn < l1 := fun h => hbad (.inl h)
                  have hb2 : ¬ h1 < yn := fun h => hbad (.inr h)
                  have d1 : decide ((yn : Int) < (l1 : Int)) = false := by simpa using hb1
                  have d2 : decide ((h1 : Int) < (yn : Int)) = false := by simpa using hb2
                  clear g1 G1 hbad
                  go_wp2_with fail
                  go_roundg (1 + 1 - (j + 1))
                  case measure => omega
                  case rel =>
                    have hm := HM.out
                    refine ⟨j + 1, r * 64 + (yn % 64 : Nat), 128, 191, rfl, ?_, rfl, rfl, by go_num, by omega, by omega, by omega, by omega, rfl, by omega, by omega, ?_⟩
                    · exact congrArg (Value.int IntKind.i32) (by omega)
                    · rw [show 1 + 1 - (j + 1) = m by omega, show j + 1 - 1 = j by omega]
                      exact G2.out
              · have i2 : (t.length : Int) + 1 ≤ (j : Int) := by omega
                have go1 := GO.out
                obtain ⟨m, hm1⟩ : ∃ m, 1 + 1 - j = m + 1 := ⟨1 - j, by omega⟩
                rw [hm1, List.drop_eq_nil_of_le (by omega), contGo] at go1
                have G1 := Lib.hid go1
                clear go1 GO hm1
                go_wp2_with fail
                go_ret3
                rw [← HQ2.out, ← G1.out]
                exact ⟨_, rfl, rfl⟩
            · obtain rfl : j = 1 + 1 := by omega
              have go1 := GO.out
              rw [Nat.sub_self, contGo] at go1
              have G1 := Lib.hid go1
              clear go1 GO
              go_wp2_with fail
              go_ret3
              rw [← HQ2.out, ← G1.out]
              exact ⟨_, rfl, rfl⟩
        · simp only at HAND
          go_enter Tryz.func29, Tryz.ntmps29
          go_wp2_with fail
          refine MC.out.mono ?_
          rintro e w' ⟨rfl, rfl⟩
          go_wp2_with fail
          rw [HAND.out]
          go_loopg [2, 6, 7, 8] (2 + 1 - 1) (fun g tr tl th ti wr => ∃ (j : Nat) (r : Int) (l1 h1 : Nat), g = 2 + 1 - j ∧ tr = .int .i32 r ∧ tl = .int .u8 l1 ∧ th = .int .u8 h1 ∧ ti = .int .i64 j ∧ 1 ≤ j ∧ j ≤ 2 + 1 ∧ l1 < 256 ∧ h1 < 256 ∧ wr = w' ∧ 0 ≤ r ∧ (j = 1 ∧ r < 32 ∨ j = 2 ∧ r < 2048 ∨ j = 3 ∧ r < 131072 ∨ j = 4 ∧ r < 8388608) ∧ contGo (2 + 1 - j) r l1 h1 (t.drop (j - 1)) = Rr)
          case atStart => exact ⟨1, r0, lo, hi, rfl, rfl, rfl, rfl, rfl, by omega, by omega, hlo, hhi, rfl, hr0a, .inl ⟨rfl, hr0b⟩, HRR.out⟩
          case round =>
            obtain ⟨j, r, l1, h1, rfl, rfl, rfl, rfl, rfl, j1, j2, hl1, hh1, rfl, hr, hrb, hgo⟩ := hrel
            have GO := Lib.hid hgo
            clear hgo
            by_cases hj : j ≤ 2
            · have i1 : (j : Int) ≤ 2 := by omega
              by_cases hlen : j < t.length + 1
              · have i2 : (j : Int) < (t.length : Int) + 1 := by omega
                obtain ⟨y, hy⟩ : ∃ y, t[j - 1]? = some y := ⟨_, List.getElem?_eq_getElem (by omega)⟩
                have hy2 : (x :: t)[j]? = some y := by
                  obtain ⟨j', rfl⟩ : ∃ j', j = j' + 1 := ⟨j - 1, by omega⟩
                  simpa using hy
                obtain ⟨b', off', e', cj⟩ := cell_byte H.out hy2
                cases e'
                have hdr : t.drop (j - 1) = y :: t.drop j := by
                  rw [List.drop_eq_getElem_cons (by omega)]
                  have : t[j - 1] = y := by
                    have := List.getElem?_eq_getElem (l := t) (i := j - 1) (by omega)
                    rw [this] at hy
                    exact Option.some.inj hy
                  rw [this, show j - 1 + 1 = j by omega]
                have hyl : y.toNat < 256 := y.toNat_lt
                have go1 := GO.out
                obtain ⟨m, hm1⟩ : ∃ m, 2 + 1 - j = m + 1 := ⟨2 - j, by omega⟩
                rw [hdr, hm1, contGo] at go1
                have SO := step_or r y.toNat hr (by omega) hyl
                generalize y.toNat = yn at cj hyl go1 SO
                have G1 := Lib.hid go1
                have HM := Lib.hid hm1
                have SOH := Lib.hid SO
                clear hy hy2 hdr go1 GO hm1 SO
                by_cases hbad : yn < l1 ∨ h1 < yn
                · have g1 := G1.out
                  rw [if_pos hbad] at g1
                  have G2 := Lib.hid g1
                  clear g1 G1
                  by_cases hb1 : yn < l1
                  · have d1 : decide ((yn : Int) < (l1 : Int)) = true := by simpa using hb1
                    go_wp2_with fail
                    go_ret3
                    rw [← HQ2.out, ← G2.out]
                    exact ⟨_, rfl, rfl⟩
                  · have d1 : decide ((yn : Int) < (l1 : Int)) = false := by simpa using hb1
                    have hb2 : h1 < yn := by omega
                    have d2 : decide ((h1 : Int) < (yn : Int)) = true := by simpa using hb2
                    go_wp2_with fail
                    go_ret3
                    rw [← HQ2.out, ← G2.out]
                    exact ⟨_, rfl, rfl⟩
                · have g1 := G1.out
                  rw [if_neg hbad] at g1
                  have G2 := Lib.hid g1
                  have hb1 : ¬ yn < l1 := fun h => hbad (.inl h)
                  have hb2 : ¬ h1 < yn := fun h => hbad (.inr h)
                  have d1 : decide ((yn : Int) < (l1 : Int)) = false := by simpa using hb1
                  have d2 : decide ((h1 : Int) < (yn : Int)) = false := by simpa using hb2
                  clear g1 G1 hbad
                  go_wp2_with fail
                  go_roundg (2 + 1 - (j + 1))
                  case measure => omega
                  case rel =>
                    have hm := HM.out
                    refine ⟨j + 1, r * 64 + (yn % 64 : Nat), 128, 191, rfl, ?_, rfl, rfl, by go_num, by omega, by omega, by omega, by omega, rfl, by omega, by omega, ?_⟩
                    · exact congrArg (Value.int IntKind.i32) (by omega)
                    · rw [show 2 + 1 - (j + 1) = m by omega, show j + 1 - 1 = j by omega]
                      exact G2.out
              · have i2 : (t.length : Int) + 1 ≤ (j : Int) := by omega
                have go1 := GO.out
                obtain ⟨m, hm1⟩ : ∃ m, 2 + 1 - j = m + 1 := ⟨2 - j, by omega⟩
                rw [hm1, List.drop_eq_nil_of_le (by omega), contGo] at go1
                have G1 := Lib.hid go1
                clear go1 GO hm1
                go_wp2_with fail
                go_ret3
                rw [← HQ2.out, ← G1.out]
                exact ⟨_, rfl, rfl⟩
            · obtain rfl : j = 2 + 1 := by omega
              have go1 := GO.out
              rw [Nat.sub_self, contGo] at go1
              have G1 := Lib.hid go1
              clear go1 GO
              go_wp2_with fail
              go_ret3
              rw [← HQ2.out, ← G1.out]
              exact ⟨_, rfl, rfl⟩
        · simp only at HAND
          go_enter Tryz.func29, Tryz.ntmps29
          go_wp2_with fail
          refine MC.out.mono ?_
          rintro e w' ⟨rfl, rfl⟩
          go_wp2_with fail
          rw [HAND.out]
          go_loopg [2, 6, 7, 8] (3 + 1 - 1) (fun g tr tl th ti wr => ∃ (j : Nat) (r : Int) (l1 h1 : Nat), g = 3 + 1 - j ∧ tr = .int .i32 r ∧ tl = .int .u8 l1 ∧ th = .int .u8 h1 ∧ ti = .int .i64 j ∧ 1 ≤ j ∧ j ≤ 3 + 1 ∧ l1 < 256 ∧ h1 < 256 ∧ wr = w' ∧ 0 ≤ r ∧ (j = 1 ∧ r < 32 ∨ j = 2 ∧ r < 2048 ∨ j = 3 ∧ r < 131072 ∨ j = 4 ∧ r < 8388608) ∧ contGo (3 + 1 - j) r l1 h1 (t.drop (j - 1)) = Rr)
          case atStart => exact ⟨1, r0, lo, hi, rfl, rfl, rfl, rfl, rfl, by omega, by omega, hlo, hhi, rfl, hr0a, .inl ⟨rfl, hr0b⟩, HRR.out⟩
          case round =>
            obtain ⟨j, r, l1, h1, rfl, rfl, rfl, rfl, rfl, j1, j2, hl1, hh1, rfl, hr, hrb, hgo⟩ := hrel
            have GO := Lib.hid hgo
            clear hgo
            by_cases hj : j ≤ 3
            · have i1 : (j : Int) ≤ 3 := by omega
              by_cases hlen : j < t.length + 1
              · have i2 : (j : Int) < (t.length : Int) + 1 := by omega
                obtain ⟨y, hy⟩ : ∃ y, t[j - 1]? = some y := ⟨_, List.getElem?_eq_getElem (by omega)⟩
                have hy2 : (x :: t)[j]? = some y := by
                  obtain ⟨j', rfl⟩ : ∃ j', j = j' + 1 := ⟨j - 1, by omega⟩
                  simpa using hy
                obtain ⟨b', off', e', cj⟩ := cell_byte H.out hy2
                cases e'
                have hdr : t.drop (j - 1) = y :: t.drop j := by
                  rw [List.drop_eq_getElem_cons (by omega)]
                  have : t[j - 1] = y := by
                    have := List.getElem?_eq_getElem (l := t) (i := j - 1) (by omega)
                    rw [this] at hy
                    exact Option.some.inj hy
                  rw [this, show j - 1 + 1 = j by omega]
                have hyl : y.toNat < 256 := y.toNat_lt
                have go1 := GO.out
                obtain ⟨m, hm1⟩ : ∃ m, 3 + 1 - j = m + 1 := ⟨3 - j, by omega⟩
                rw [hdr, hm1, contGo] at go1
                have SO := step_or r y.toNat hr (by omega) hyl
                generalize y.toNat = yn at cj hyl go1 SO
                have G1 := Lib.hid go1
                have HM := Lib.hid hm1
                have SOH := Lib.hid SO
                clear hy hy2 hdr go1 GO hm1 SO
                by_cases hbad : yn < l1 ∨ h1 < yn
                · have g1 := G1.out
                  rw [if_pos hbad] at g1
                  have G2 := Lib.hid g1
                  clear g1 G1
                  by_cases hb1 : yn < l1
                  · have d1 : decide ((yn : Int) < (l1 : Int)) = true := by simpa using hb1
                    go_wp2_with fail
                    go_ret3
                    rw [← HQ2.out, ← G2.out]
                    exact ⟨_, rfl, rfl⟩
                  · have d1 : decide ((yn : Int) < (l1 : Int)) = false := by simpa using hb1
                    have hb2 : h1 < yn := by omega
                    have d2 : decide ((h1 : Int) < (yn : Int)) = true := by simpa using hb2
                    go_wp2_with fail
                    go_ret3
                    rw [← HQ2.out, ← G2.out]
                    exact ⟨_, rfl, rfl⟩
                · have g1 := G1.out
                  rw [if_neg hbad] at g1
                  have G2 := Lib.hid g1
                  have hb1 : ¬ yn < l1 := fun h => hbad (.inl h)
                  have hb2 : ¬ h1 < yn := fun h => hbad (.inr h)
                  have d1 : decide ((yn : Int) < (l1 : Int)) = false := by simpa using hb1
                  have d2 : decide ((h1 : Int) < (yn : Int)) = false := by simpa using hb2
                  clear g1 G1 hbad
                  go_wp2_with fail
                  go_roundg (3 + 1 - (j + 1))
                  case measure => omega
                  case rel =>
                    have hm := HM.out
                    refine ⟨j + 1, r * 64 + (yn % 64 : Nat), 128, 191, rfl, ?_, rfl, rfl, by go_num, by omega, by omega, by omega, by omega, rfl, by omega, by omega, ?_⟩
                    · exact congrArg (Value.int IntKind.i32) (by omega)
                    · rw [show 3 + 1 - (j + 1) = m by omega, show j + 1 - 1 = j by omega]
                      exact G2.out
              · have i2 : (t.length : Int) + 1 ≤ (j : Int) := by omega
                have go1 := GO.out
                obtain ⟨m, hm1⟩ : ∃ m, 3 + 1 - j = m + 1 := ⟨3 - j, by omega⟩
                rw [hm1, List.drop_eq_nil_of_le (by omega), contGo] at go1
                have G1 := Lib.hid go1
                clear go1 GO hm1
                go_wp2_with fail
                go_ret3
                rw [← HQ2.out, ← G1.out]
                exact ⟨_, rfl, rfl⟩
            · obtain rfl : j = 3 + 1 := by omega
              have go1 := GO.out
              rw [Nat.sub_self, contGo] at go1
              have G1 := Lib.hid go1
              clear go1 GO
              go_wp2_with fail
              go_ret3
              rw [← HQ2.out, ← G1.out]
              exact ⟨_, rfl, rfl⟩
      rcases hk with h | h | h | h
      · subst h
        have h0 : start 0 n = n := hst.2.1 rfl
        have hq2 := HQ.out
        have HQ3 : Hid (((n : Int), (0 : Int) + 1) = q) := Lib.hid (by rw [← hq2, HST.out.2.1 rfl]; rfl)
        clear hq2 HQ ST HST hst MR loop h0
        go_enter Tryz.func29, Tryz.ntmps29
        go_wp2_with fail
        refine MC.out.mono ?_
        rintro e w' ⟨rfl, rfl⟩
        go_wp2_with fail
        refine wp_loop_rounds 1 ?_
        rw [rounds_succ]
        go_wp2_with fail
        go_ret3
        rw [← HQ3.out]
        exact ⟨_, rfl, rfl⟩
      · exact loop 1 (by omega) (by omega) h _ rfl (by rw [← HQ.out, h]; rfl) (ST.out.1 h)
      · exact loop 2 (by omega) (by omega) h _ rfl (by rw [← HQ.out, h]; rfl) (ST.out.2.1 h)
      · exact loop 3 (by omega) (by omega) h _ rfl (by rw [← HQ.out, h]; rfl) (ST.out.2.2 h)
end Go.Proofs.YtooockbfagkknaaGreatDoor.syn
