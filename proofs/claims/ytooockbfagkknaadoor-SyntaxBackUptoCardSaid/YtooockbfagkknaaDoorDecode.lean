/- The bytes of runes are read as these runes. -/
import Derived.Test.YtooockbfagkknaaDoorPrint
import Derived.Test.YtooockbfagkknaaDoorAll
namespace Go.Proofs.YtooockbfagkknaaDoor.syn
open Go.RowKit Go.Proofs.YtooockbfagkknaaDoor.sl Go.Proofs.YtooockbfagkknaaDoor.cls
section
theorem u8_of {n : Nat} (h : n < 256) : (UInt8.ofNat n).toNat = n := by
  simp [UInt8.toNat_ofNat']
  omega
theorem more1 {n : Nat} (h1 : 194 ≤ n) (h2 : n < 224) : moreF n = (1, 128, 191) := by
  unfold moreF
  rw [if_neg (by omega), if_neg (by omega), if_pos (by omega)]
theorem more2 {n : Nat} (h1 : 225 ≤ n) (h2 : n < 240) (h3 : n ≠ 237) : moreF n = (2, 128, 191) := by
  unfold moreF
  rw [if_neg (by omega), if_neg (by omega), if_neg (by omega), if_neg (by omega), if_neg (by omega), if_pos (by omega)]
theorem more3 {n : Nat} (h1 : 241 ≤ n) (h2 : n < 244) : moreF n = (3, 128, 191) := by
  unfold moreF
  rw [if_neg (by omega), if_neg (by omega), if_neg (by omega), if_neg (by omega), if_neg (by omega), if_neg (by omega), if_neg (by omega), if_pos (by omega)]
theorem cont_one {n lo hi : Nat} {r : Int} {t : List UInt8} (h : n < 256) (h1 : lo ≤ n) (h2 : n ≤ hi) : contGo 1 r lo hi (UInt8.ofNat n :: t) = some (r * 64 + (n % 64 : Nat)) := by
  rw [contGo, u8_of h, if_neg (by omega)]
  rfl
theorem cont_step {k n lo hi : Nat} {r : Int} {t : List UInt8} (h : n < 256) (h1 : lo ≤ n) (h2 : n ≤ hi) : contGo (k + 1) r lo hi (UInt8.ofNat n :: t) = contGo k (r * 64 + (n % 64 : Nat)) 128 191 t := by
  rw [contGo, u8_of h, if_neg (by omega)]
  rfl
/-- How many bytes a rune takes. -/
theorem utf_cases {r : Int} (h : validB r = true) : ∃ c : Nat, r = c ∧
    ((c < 128 ∧ utfB r = [UInt8.ofNat c]) ∨
     (128 ≤ c ∧ c < 2048 ∧ utfB r = [UInt8.ofNat (192 + c / 64), UInt8.ofNat (128 + c % 64)]) ∨
     (2048 ≤ c ∧ c < 65536 ∧ (c < 55296 ∨ 57344 ≤ c) ∧ utfB r = [UInt8.ofNat (224 + c / 4096), UInt8.ofNat (128 + c / 64 % 64), UInt8.ofNat (128 + c % 64)]) ∨
     (65536 ≤ c ∧ c < 1114112 ∧ utfB r = [UInt8.ofNat (240 + c / 262144), UInt8.ofNat (128 + c / 4096 % 64), UInt8.ofNat (128 + c / 64 % 64), UInt8.ofNat (128 + c % 64)])) := by
  rw [valid_iff] at h
  have hv : Utf8.valid r = true := by
    unfold Utf8.valid
    simp
    omega
  refine ⟨r.toNat, by omega, ?_⟩
  unfold utfB Utf8.encode
  simp only [hv, if_true]
  by_cases h1 : r.toNat < 128
  · left
    rw [if_pos h1]
    exact ⟨h1, rfl⟩
  · right
    rw [if_neg h1]
    by_cases h2 : r.toNat < 2048
    · left
      rw [if_pos h2]
      exact ⟨by omega, h2, rfl⟩
    · right
      rw [if_neg h2]
      by_cases h3 : r.toNat < 65536
      · left
        rw [if_pos h3]
        exact ⟨by omega, h3, by omega, rfl⟩
      · right
        rw [if_neg h3]
        exact ⟨by omega, by omega, rfl⟩
theorem first_utf {r : Int} (h : validB r = true) (t : List UInt8) : firstF (utfB r ++ t) = (r, ((utfB r).length : Int)) := by
  obtain ⟨c, rfl, hc⟩ := utf_cases h
  rcases hc with ⟨h1, e⟩ | ⟨h1, h2, e⟩ | ⟨h1, h2, h3, e⟩ | ⟨h1, h2, e⟩ <;> rw [e]
  · rw [List.singleton_append, firstF_cons (UInt8.ofNat c) t (u8_of (by omega)) (k := 0) (lo := 0) (hi := 0) (by unfold moreF; rw [if_pos h1])]
    simp [contGo, start]
  · rw [List.cons_append, firstF_cons _ _ (u8_of (by omega)) (more1 (by omega) (by omega)), List.cons_append]
    show (match contGo 1 _ _ _ _ with | some r => (r, (1 : Int) + 1) | none => (0, 0)) = _
    rw [cont_one (by omega) (by omega) (by omega)]
    simp [start]
    omega
  · have key : ∀ lo hi, moreF (224 + c / 4096) = (2, lo, hi) → lo ≤ 128 + c / 64 % 64 → 128 + c / 64 % 64 ≤ hi → firstF ([UInt8.ofNat (224 + c / 4096), UInt8.ofNat (128 + c / 64 % 64), UInt8.ofNat (128 + c % 64)] ++ t) = ((c : Int), (([UInt8.ofNat (224 + c / 4096), UInt8.ofNat (128 + c / 64 % 64), UInt8.ofNat (128 + c % 64)] : List UInt8).length : Int)) := fun lo hi hm hlo hhi => by
      rw [List.cons_append, firstF_cons _ _ (u8_of (by omega)) hm, List.cons_append, List.cons_append]
      show (match contGo 2 _ _ _ _ with | some r => (r, (2 : Int) + 1) | none => (0, 0)) = _
      rw [cont_step (by omega) hlo hhi, cont_one (by omega) (by omega) (by omega)]
      simp [start]
      omega
    by_cases ha : 224 + c / 4096 = 224
    · exact key 160 191 (by rw [ha]; rfl) (by omega) (by omega)
    · by_cases hb : 224 + c / 4096 = 237
      · exact key 128 159 (by rw [hb]; rfl) (by omega) (by omega)
      · exact key 128 191 (more2 (by omega) (by omega) hb) (by omega) (by omega)
  · have key : ∀ lo hi, moreF (240 + c / 262144) = (3, lo, hi) → lo ≤ 128 + c / 4096 % 64 → 128 + c / 4096 % 64 ≤ hi → firstF ([UInt8.ofNat (240 + c / 262144), UInt8.ofNat (128 + c / 4096 % 64), UInt8.ofNat (128 + c / 64 % 64), UInt8.ofNat (128 + c % 64)] ++ t) = ((c : Int), (([UInt8.ofNat (240 + c / 262144), UInt8.ofNat (128 + c / 4096 % 64), UInt8.ofNat (128 + c / 64 % 64), UInt8.ofNat (128 + c % 64)] : List UInt8).length : Int)) := fun lo hi hm hlo hhi => by
      rw [List.cons_append, firstF_cons _ _ (u8_of (by omega)) hm, List.cons_append, List.cons_append, List.cons_append]
      show (match contGo 3 _ _ _ _ with | some r => (r, (3 : Int) + 1) | none => (0, 0)) = _
      rw [cont_step (by omega) hlo hhi, cont_step (by omega) (by omega) (by omega), cont_one (by omega) (by omega) (by omega)]
      simp [start]
      omega
    by_cases ha : 240 + c / 262144 = 240
    · exact key 144 191 (by rw [ha]; rfl) (by omega) (by omega)
    · by_cases hb : 240 + c / 262144 = 244
      · exact key 128 143 (by rw [hb]; rfl) (by omega) (by omega)
      · exact key 128 191 (more3 (by omega) (by omega)) (by omega) (by omega)
theorem utf_len {r : Int} (h : validB r = true) : 1 ≤ (utfB r).length ∧ ((utfB r).length = 1 → r < 128) := by
  obtain ⟨c, rfl, hc⟩ := utf_cases h
  rcases hc with ⟨h1, e⟩ | ⟨h1, h2, e⟩ | ⟨h1, h2, h3, e⟩ | ⟨h1, h2, e⟩ <;> rw [e] <;> simp
  omega
/-- Runes, each with how many bytes it takes. -/
def gots (rs : List Int) : List Gt := rs.map fun r => (r, ((utfB r).length : Int))
theorem allGo_bs : ∀ (rs : List Int) (n : Nat), (∀ r ∈ rs, validB r = true) → (bsL rs).length ≤ n → allGo n (bsL rs) = gots rs
  | [], n, _, _ => allGo_nil n
  | r :: rs, n, h, hn => by
    have hr := h r (by simp)
    have hl := (utf_len hr).1
    have e : bsL (r :: rs) = utfB r ++ bsL rs := by simp [bsL]
    rw [e] at hn ⊢
    have hf := first_utf hr (bsL rs)
    rw [List.length_append] at hn
    obtain ⟨m, rfl⟩ : ∃ m, n = m + 1 := ⟨n - 1, by omega⟩
    have hne : utfB r ++ bsL rs ≠ [] := by
      intro h0
      have := congrArg List.length h0
      simp at this
      rw [this.1] at hl
      simp at hl
    rw [allGo_ok hne (m := (utfB r).length) (by rw [hf]) hl, hf, List.drop_left, allGo_bs rs m (fun x hx => h x (by simp [hx])) (by omega)]
    rfl
theorem allF_bs {rs : List Int} (h : ∀ r ∈ rs, validB r = true) : allF (bsL rs) = gots rs := allGo_bs rs _ h (Nat.le_refl _)
theorem seg_bs {rs : List Int} (h : ∀ r ∈ rs, validB r = true) : Seg (allF (bsL rs)) 0 rs := by
  rw [allF_bs h]
  intro k r hk
  have hg : (gots rs)[0 + k]? = some (r, ((utfB r).length : Int)) := by
    unfold gots
    rw [Nat.zero_add, List.getElem?_map, hk]
    rfl
  refine ⟨_, hg, rfl, ?_⟩
  rw [bad_get hg]
  have := (utf_len (h r (List.mem_of_getElem? hk))).2
  simp only [Bool.and_eq_false_iff, beq_eq_false_iff_ne, ne_eq]
  by_cases h1 : (utfB r).length = 1
  · left; have := this h1; omega
  · right; omega
theorem len_bs {rs : List Int} (h : ∀ r ∈ rs, validB r = true) : (allF (bsL rs)).length = rs.length := by
  rw [allF_bs h]
  simp [gots]
/-! ### The brackets of a text -/
theorem steps_high {x o m : Int} : ∀ {l : List UInt8}, (∀ c ∈ l, 128 ≤ c.toNat) → l.foldl stepB (false, o, m) = (false, o, m)
  | [], _ => rfl
  | c :: l, h => by
    have hc := h c (by simp)
    have e : ∀ n : Nat, n < 128 → c ≠ UInt8.ofNat n := fun n hn e => by rw [e, u8_of (by omega)] at hc; omega
    rw [List.foldl_cons]
    have : stepB (false, o, m) c = (false, o, m) := by
      unfold stepB
      rw [if_neg (by simp), if_neg (show ¬ c = 92 from e 92 (by omega)), if_neg (show ¬ c = 40 from e 40 (by omega)), if_neg (show ¬ c = 41 from e 41 (by omega))]
    rw [this]
    exact steps_high (x := x) fun d hd => h d (by simp [hd])
theorem step_rune {r : Int} (h : validB r = true) (s : Bool × Int × Int) : (utfB r).foldl stepB s = stepR s r := by
  obtain ⟨b, o, m⟩ := s
  obtain ⟨c, rfl, hc⟩ := utf_cases h
  have hi : ∀ (x : UInt8) (l : List UInt8), 128 ≤ x.toNat → (∀ d ∈ l, 128 ≤ d.toNat) → 128 ≤ c → (x :: l).foldl stepB (b, o, m) = stepR (b, o, m) (c : Int) := fun x l hx hl hc => by
    have e : stepB (b, o, m) x = (false, o, m) := by
      have e : ∀ n : Nat, n < 128 → x ≠ UInt8.ofNat n := fun n hn e => by rw [e, u8_of (by omega)] at hx; omega
      unfold stepB
      cases b
      · rw [if_neg (by simp), if_neg (show ¬ x = 92 from e 92 (by omega)), if_neg (show ¬ x = 40 from e 40 (by omega)), if_neg (show ¬ x = 41 from e 41 (by omega))]
      · rfl
    rw [List.foldl_cons, e, steps_high (x := 0) hl]
    unfold stepR
    cases b
    · rw [if_neg (by simp), if_neg (by omega), if_neg (by omega), if_neg (by omega)]
    · rfl
  rcases hc with ⟨h1, e⟩ | ⟨h1, h2, e⟩ | ⟨h1, h2, h3, e⟩ | ⟨h1, h2, e⟩ <;> rw [e]
  · show stepB (b, o, m) (UInt8.ofNat c) = _
    have e : ∀ n : Nat, n < 128 → (UInt8.ofNat c = UInt8.ofNat n ↔ (c : Int) = (n : Int)) := fun n hn => by
      constructor
      · intro e
        have := congrArg UInt8.toNat e
        rw [u8_of (by omega), u8_of (by omega)] at this
        omega
      · intro e
        have : c = n := by omega
        rw [this]
    have e92 := e 92 (by omega)
    have e40 := e 40 (by omega)
    have e41 := e 41 (by omega)
    unfold stepB stepR
    have k92 : (UInt8.ofNat c = 92) = ((c : Int) = 92) := propext e92
    have k40 : (UInt8.ofNat c = 40) = ((c : Int) = 40) := propext e40
    have k41 : (UInt8.ofNat c = 41) = ((c : Int) = 41) := propext e41
    simp only [k92, k40, k41]
  · exact hi _ _ (by rw [u8_of (by omega)]; omega) (by intro d hd; simp only [List.mem_cons, List.not_mem_nil, or_false] at hd; subst hd; rw [u8_of (by omega)]; omega) h1
  · exact hi _ _ (by rw [u8_of (by omega)]; omega) (by intro d hd; simp only [List.mem_cons, List.not_mem_nil, or_false] at hd; rcases hd with rfl | rfl <;> (rw [u8_of (by omega)]; omega)) (by omega)
  · exact hi _ _ (by rw [u8_of (by omega)]; omega) (by intro d hd; simp only [List.mem_cons, List.not_mem_nil, or_false] at hd; rcases hd with rfl | rfl | rfl <;> (rw [u8_of (by omega)]; omega)) (by omega)
theorem nest_bs : ∀ (rs : List Int) (s : Bool × Int × Int), (∀ r ∈ rs, validB r = true) → (bsL rs).foldl stepB s = nestR rs s
  | [], s, _ => rfl
  | r :: rs, s, h => by
    have e : bsL (r :: rs) = utfB r ++ bsL rs := by simp [bsL]
    rw [e, List.foldl_append, step_rune (h r (by simp)), nest_bs rs _ fun x hx => h x (by simp [hx])]
    rfl
end
end Go.Proofs.YtooockbfagkknaaDoor.syn
