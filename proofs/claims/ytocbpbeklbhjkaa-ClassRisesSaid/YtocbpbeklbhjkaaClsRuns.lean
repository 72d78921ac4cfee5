/- Make, Not, Both as functions of plain lists; ClassRuns walked. -/
import Derived.Test.YtocbpbeklbhjkaaRefPlain
import Derived.Test.YtocbpbeklbhjkaaBoth
namespace Go.Proofs.Ytocbpbeklbhjkaa.cls
open Go.RowKit Go.Proofs.Ytocbpbeklbhjkaa.sl
def notF (l : List Rg) : List Rg := makeF (notGo 0 (makeF l))
def bothF (a b : List Rg) : List Rg := makeF (interF (makeF a) (makeF b))
theorem notF_nots (l : List Rg) : Nots l (notF l) := nots_of (makeF_makes l) (makeF_makes _)
theorem bothF_boths (a b : List Rg) : Boths a b (bothF a b) := boths_of (makeF_makes _)
theorem makeC (a : Option Addr) (l : List Rg) (cap : Nat) (w : World) (h : Rd er w a l cap) (hl : l.length ≤ 100000000) :
    Calls Try.prog 9 #[.slice a l.length cap] w fun e w' => ∃ v, e = .returned v ∧ OwnR w.heap.size w' v (makeF l) ∧ Below w.heap.size w w' :=
  (make a l cap w h hl).mono fun _ _ ⟨v, m, he, hm, ho, hb⟩ => ⟨v, he, makes_eq hm ▸ ho, hb⟩
theorem notC (a : Option Addr) (l : List Rg) (cap : Nat) (w : World) (h : Rd er w a l cap) (hl : l.length ≤ 10000000) :
    Calls Try.prog 11 #[.slice a l.length cap] w fun e w' => ∃ v, e = .returned v ∧ OwnR w.heap.size w' v (notF l) ∧ Below w.heap.size w w' :=
  (not a l cap w h hl).mono fun _ _ ⟨v, m, he, hm, ho, hb⟩ => ⟨v, he, nots_uniq hm (notF_nots l) ▸ ho, hb⟩
theorem bothC (a b : Option Addr) (l m : List Rg) (ca cb : Nat) (w : World) (h : Rd er w a l ca) (h' : Rd er w b m cb) (hl : l.length ≤ 2000) (hl' : m.length ≤ 2000) :
    Calls Try.prog 12 #[.slice a l.length ca, .slice b m.length cb] w fun e w' => ∃ v, e = .returned v ∧ OwnR w.heap.size w' v (bothF l m) ∧ Below w.heap.size w w' :=
  (both a b l m ca cb w h h' hl hl').mono fun _ _ ⟨v, n, he, hn, ho, hb⟩ => ⟨v, he, boths_uniq hn (bothF_boths l m) ▸ ho, hb⟩
theorem rightC (a : Option Addr) (l : List Rg) (cap : Nat) (w : World) (h : Rd er w a l cap) (hl : l.length ≤ 100000000) :
    Calls Try.prog 14 #[.slice a l.length cap] w fun e w' => e = .returned (.bool (decide (l = makeF l))) ∧ Below w.heap.size w w' :=
  (right a l cap w h hl).mono fun _ _ ⟨m, hm, he, hb⟩ => by obtain rfl := makes_eq hm; exact ⟨he, hb⟩
theorem makeF_is {l m : List Rg} (hg : Good m) (h : ∀ r, hasB m r = (validB r && hasB l r)) : makeF l = m := good_uniq (makeF_makes l).1 hg fun r => by rw [(makeF_makes l).2.1, h]
theorem notF_is {l m : List Rg} (hg : Good m) (h : ∀ r, hasB m r = (validB r && !hasB l r)) : notF l = m := good_uniq (notF_nots l).1 hg fun r => by rw [(notF_nots l).2.1, h]
theorem bothF_is {a b m : List Rg} (hg : Good m) (h : ∀ r, hasB m r = (validB r && (hasB a r && hasB b r))) : bothF a b = m := good_uniq (bothF_boths a b).1 hg fun r => by rw [(bothF_boths a b).2.1, h]
theorem m1_is : makeF [(99, 102), (97, 98), (120, 119), (101, 107)] = [(97, 107)] :=
  makeF_is ⟨by simp [InP], by simp⟩ fun r => by rw [Bool.eq_iff_iff]; simp [hasB, validB]; omega
theorem m2_is : makeF [(-5, 2), (53248, 57345), (1114111, 2097152)] = [(0, 2), (53248, 55295), (57344, 57345), (1114111, 1114111)] :=
  makeF_is ⟨by simp [InP], by simp⟩ fun r => by rw [Bool.eq_iff_iff]; simp [hasB, validB]; omega
theorem m3_is : makeF [] = [] := makeF_is ⟨by simp, by simp⟩ fun r => by simp [hasB]
theorem m4_is : notF [] = [(0, 55295), (57344, 1114111)] :=
  notF_is ⟨by simp [InP], by simp⟩ fun r => by rw [Bool.eq_iff_iff]; simp [hasB, validB]; omega
theorem m5_is : bothF [(97, 107)] [(103, 122)] = [(103, 107)] :=
  bothF_is ⟨by simp [InP], by simp⟩ fun r => by rw [Bool.eq_iff_iff]; simp [hasB, validB]; omega
theorem m6_is : makeF [(97, 107)] = [(97, 107)] :=
  makeF_is ⟨by simp [InP], by simp⟩ fun r => by rw [Bool.eq_iff_iff]; simp [hasB, validB]; omega
theorem below_next {w0 w1 w2 : World} {o : Obj} (hb : Below w0.heap.size w0 w1) (b : Below (w1.alloc o).heap.size (w1.alloc o) w2) : Below w0.heap.size w0 w2 :=
  (hb.alloc hb.size o).trans (b.mono (by have := hb.size; simp; omega))
theorem Rd.alloc {w : World} {a : Option Addr} {l : List Rg} {cap : Nat} (h : Rd er w a l cap) (o : Obj) : Rd er (w.alloc o) a l cap :=
  h.kept (by have := (Below.refl w.heap.size w).alloc (Nat.le_refl _) o; exact this)
theorem Rd.next {w w2 : World} {a : Option Addr} {l : List Rg} {cap : Nat} {o : Obj} (h : Rd er w a l cap) (b : Below (w.alloc o).heap.size (w.alloc o) w2) : Rd er w2 a l cap :=
  (Rd.alloc h o).kept b
end Go.Proofs.Ytocbpbeklbhjkaa.cls
