/- The runes of a text are runes; so the document's reader gives what the program's gives. -/
import Derived.Test.YtooockbfagkknaaGreatDoorBck
import Derived.Test.YtooockbfagkknaaGreatDoorPln
import Derived.Test.YtooockbfagkknaaGreatDoorR10m
namespace Go.Proofs.YtooockbfagkknaaGreatDoor.syn
open Go.RowKit Go.Proofs.YtooockbfagkknaaGreatDoor.sl Go.Proofs.YtooockbfagkknaaGreatDoor.cls
theorem dec1 {r lo hi x} {t : List UInt8} (h : contGo 1 r lo hi t = some x) : ∃ b : Nat, lo ≤ b ∧ b ≤ hi ∧ x = r * 64 + (b % 64 : Nat) := by
  cases t with
  | nil => cases h
  | cons b t =>
    have e := cont_val1 h
    rw [contGo] at h
    split at h
    · cases h
    · exact ⟨b.toNat, by omega, by omega, e⟩
theorem dec2 {r lo hi x} {t : List UInt8} (h : contGo 2 r lo hi t = some x) : ∃ b d : Nat, lo ≤ b ∧ b ≤ hi ∧ 128 ≤ d ∧ d ≤ 191 ∧ x = (r * 64 + (b % 64 : Nat)) * 64 + (d % 64 : Nat) := by
  cases t with
  | nil => cases h
  | cons b t =>
    rw [contGo] at h
    split at h
    · cases h
    · obtain ⟨d, h1, h2, h3⟩ := dec1 h
      exact ⟨b.toNat, d, by omega, by omega, h1, h2, by simpa using h3⟩
theorem dec3 {r lo hi x} {t : List UInt8} (h : contGo 3 r lo hi t = some x) : ∃ b d f : Nat, lo ≤ b ∧ b ≤ hi ∧ 128 ≤ d ∧ d ≤ 191 ∧ 128 ≤ f ∧ f ≤ 191 ∧ x = ((r * 64 + (b % 64 : Nat)) * 64 + (d % 64 : Nat)) * 64 + (f % 64 : Nat) := by
  cases t with
  | nil => cases h
  | cons b t =>
    rw [contGo] at h
    split at h
    · cases h
    · obtain ⟨d, f, h1, h2, h3, h4, h5⟩ := dec2 h
      exact ⟨b.toNat, d, f, by omega, by omega, h1, h2, h3, h4, by simpa using h5⟩
theorem more_cases (n : Nat) : (n < 128 ∧ moreF n = (0, 0, 0)) ∨ moreF n = (-1, 0, 0) ∨ (194 ≤ n ∧ n < 224 ∧ moreF n = (1, 128, 191)) ∨ (n = 224 ∧ moreF n = (2, 160, 191)) ∨ (n = 237 ∧ moreF n = (2, 128, 159)) ∨
    (225 ≤ n ∧ n < 240 ∧ n ≠ 237 ∧ moreF n = (2, 128, 191)) ∨ (n = 240 ∧ moreF n = (3, 144, 191)) ∨ (241 ≤ n ∧ n < 244 ∧ moreF n = (3, 128, 191)) ∨ (n = 244 ∧ moreF n = (3, 128, 143)) := by
  unfold moreF
  repeat' split
  all_goals simp
  all_goals omega
theorem first_valid : ∀ l : List UInt8, (firstF l).2 ≠ 0 → validB (firstF l).1 = true
  | [], h => absurd rfl h
  | c :: t, h => by
    have fc := fun {k : Int} {lo hi : Nat} => firstF_cons c t (n := c.toNat) (k := k) (lo := lo) (hi := hi) rfl
    rw [valid_iff]
    rcases more_cases c.toNat with ⟨h1, hm⟩ | hm | ⟨h1, h2, hm⟩ | ⟨h1, hm⟩ | ⟨h1, hm⟩ | ⟨h1, h2, h3, hm⟩ | ⟨h1, hm⟩ | ⟨h1, h2, hm⟩ | ⟨h1, hm⟩
    all_goals rw [fc hm] at h ⊢
    · simp [contGo, start]
      omega
    · exact absurd rfl h
    · rw [if_neg (by decide)] at h ⊢
      cases hq : contGo (1 : Int).toNat (start 1 c.toNat) 128 191 t with
      | none => rw [hq] at h; exact absurd rfl h
      | some x =>
        obtain ⟨b, k1, k2, e⟩ := dec1 hq
        simp only [start] at e
        simp at e ⊢
        omega
    · rw [if_neg (by decide)] at h ⊢
      cases hq : contGo (2 : Int).toNat (start 2 c.toNat) 160 191 t with
      | none => rw [hq] at h; exact absurd rfl h
      | some x =>
        obtain ⟨b, d, k1, k2, k3, k4, e⟩ := dec2 hq
        simp only [start, h1] at e
        simp at e ⊢
        omega
    · rw [if_neg (by decide)] at h ⊢
      cases hq : contGo (2 : Int).toNat (start 2 c.toNat) 128 159 t with
      | none => rw [hq] at h; exact absurd rfl h
      | some x =>
        obtain ⟨b, d, k1, k2, k3, k4, e⟩ := dec2 hq
        simp only [start, h1] at e
        simp at e ⊢
        omega
    · rw [if_neg (by decide)] at h ⊢
      cases hq : contGo (2 : Int).toNat (start 2 c.toNat) 128 191 t with
      | none => rw [hq] at h; exact absurd rfl h
      | some x =>
        obtain ⟨b, d, k1, k2, k3, k4, e⟩ := dec2 hq
        simp only [start] at e
        simp at e ⊢
        omega
    · rw [if_neg (by decide)] at h ⊢
      cases hq : contGo (3 : Int).toNat (start 3 c.toNat) 144 191 t with
      | none => rw [hq] at h; exact absurd rfl h
      | some x =>
        obtain ⟨b, d, f, k1, k2, k3, k4, k5, k6, e⟩ := dec3 hq
        simp only [start, h1] at e
        simp at e ⊢
        omega
    · rw [if_neg (by decide)] at h ⊢
      cases hq : contGo (3 : Int).toNat (start 3 c.toNat) 128 191 t with
      | none => rw [hq] at h; exact absurd rfl h
      | some x =>
        obtain ⟨b, d, f, k1, k2, k3, k4, k5, k6, e⟩ := dec3 hq
        simp only [start] at e
        simp at e ⊢
        omega
    · rw [if_neg (by decide)] at h ⊢
      cases hq : contGo (3 : Int).toNat (start 3 c.toNat) 128 143 t with
      | none => rw [hq] at h; exact absurd rfl h
      | some x =>
        obtain ⟨b, d, f, k1, k2, k3, k4, k5, k6, e⟩ := dec3 hq
        simp only [start, h1] at e
        simp at e ⊢
        omega
theorem allGo_valid : ∀ (n : Nat) (l : List UInt8), ∀ g ∈ allGo n l, validB g.1 = true
  | 0, l, g, h => by cases h
  | n + 1, l, g, h => by
    by_cases hl : l = []
    · subst hl; rw [allGo_nil] at h; cases h
    · rcases firstF_len l with h0 | ⟨m, hm, h1, h2, h4⟩
      · rw [allGo_bad hl h0] at h
        rcases List.mem_cons.1 h with rfl | h
        · decide
        · exact allGo_valid n _ g h
      · rw [allGo_ok hl hm h1] at h
        rcases List.mem_cons.1 h with rfl | h
        · exact first_valid l (by omega)
        · exact allGo_valid n _ g h
theorem rune_valid {l : List UInt8} {i : Nat} (h : i < (allF l).length) : validB (runeAt (allF l) i) = true :=
  allGo_valid _ _ _ (List.mem_of_getElem? (runeAt_some h))
theorem pos_all (l : List UInt8) (i : Nat) : 0 ≤ runeAt (allF l) i := by
  rcases Nat.lt_or_ge i (allF l).length with h | h
  · have := (valid_iff _).1 (rune_valid h)
    omega
  · unfold runeAt
    rw [List.getD_eq_getElem?_getD, List.getElem?_eq_none h]
    decide
theorem s3 : makeF [(9, 10), (13, 13), (32, 32)] = [(9, 10), (13, 13), (32, 32)] := makeF_good ⟨by simp [InP], by simp⟩
theorem w4 : makeF [(48, 57), (65, 90), (95, 95), (97, 122)] = [(48, 57), (65, 90), (95, 95), (97, 122)] := makeF_good ⟨by simp [InP], by simp⟩
theorem fx_all (l : List UInt8) : Fx (allF l) where
  one i h := single_is (rune_valid h)
  n := single_is (by decide)
  t := single_is (by decide)
  r := single_is (by decide)
  d := makeF_good ⟨by simp [InP], by simp⟩
  s := by rw [s3]; rfl
  w := by rw [w4]; rfl
  s0 := by rw [s3]; simp
  w0 := by rw [w4]; simp
  not l := by
    show makeF (notGo 0 (makeF (makeF l))) = makeF (notGo 0 (makeF l))
    rw [makeF_good (makeF_makes l).1]
theorem rParse_all (l : List UInt8) : rParse (allF l) = parseG (allF l) := rParse_eq (fx_all l)
end Go.Proofs.YtooockbfagkknaaGreatDoor.syn
