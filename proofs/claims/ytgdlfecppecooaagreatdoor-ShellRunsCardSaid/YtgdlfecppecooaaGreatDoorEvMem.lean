/- An evaluator of closed calls: memory that is known, and how it turns. -/
import Derived.Test.YtgdlfecppecooaaGreatDoorEvRel
import Derived.Laws.IdiomCopy
set_option linter.all false
namespace Go.Proofs.YtgdlfecppecooaaGreatDoor.ev
open Go Go.RowKit
def ER (M : Pm) (es es' : List MapEntry) : Prop := es.length = es'.length ∧ ∀ (i : Nat) (e e' : MapEntry), es[i]? = some e → es'[i]? = some e' → VR M e.key e'.key ∧ VR M e.val e'.val ∧ e'.born = e.born
theorem ER.mono {M M' : Pm} (hM : Le M M') {es es' : List MapEntry} (h : ER M es es') : ER M' es es' :=
  ⟨h.1, fun i e e' a b => ⟨(h.2 i e e' a b).1.mono hM, (h.2 i e e' a b).2.1.mono hM, (h.2 i e e' a b).2.2⟩⟩
/-- What a piece of the known memory says of a world. -/
def OR (P : Program) (M : Pm) (o : AO) (mi : MI) (w : World) : Prop := match o with
  | .cells cs e ro => ∃ C fz, w.heap[mi.blk]? = some (.cells C e fz) ∧ C.size = mi.tot ∧ mi.sh + cs.length ≤ mi.tot ∧ (∀ (i : Nat) (v : Value), cs[i]? = some v → ∃ v', C[mi.sh + i]? = some v' ∧ VR M v v') ∧
      (∀ k, szOf P e = some k → mi.esz = k) ∧ (ro = false → fz.1 = fz.2 ∨ mi.tot ≤ fz.1) ∧ (e = TB → mi.sh = 0 ∧ cs.length = mi.tot)
  | .map es c => ∃ es', w.heap[mi.blk]? = some (.map es' c) ∧ ER M es es'.toList
  | .chan n => ∃ o', w.heap[mi.blk]? = some o' ∧ o' = .chan n #[] false 0 0 false
def AO.wr (o : AO) : Bool := match o with
  | .cells _ _ ro => !ro
  | _ => true
theorem OR.mono {P : Program} {M M' : Pm} (hM : Le M M') {o : AO} {mi : MI} {w w' : World} (hw : w'.heap[mi.blk]? = w.heap[mi.blk]?) (h : OR P M o mi w) : OR P M' o mi w' := by
  cases o with
  | cells cs e ro =>
    obtain ⟨C, fz, h1, h2, h3, h4, h5⟩ := h
    exact ⟨C, fz, hw.trans h1, h2, h3, fun i v e => let ⟨v', a, b⟩ := h4 i v e; ⟨v', a, b.mono hM⟩, h5⟩
  | map es c =>
    obtain ⟨es', h1, h2⟩ := h
    exact ⟨es', hw.trans h1, h2.mono hM⟩
  | chan n =>
    obtain ⟨o', h1, h2⟩ := h
    exact ⟨o', hw.trans h1, h2⟩
theorem OR.lt {P : Program} {M : Pm} {o : AO} {mi : MI} {w : World} (h : OR P M o mi w) : mi.blk < w.heap.size := by
  have : ∃ x, w.heap[mi.blk]? = some x := by
    cases o with
    | cells cs e ro => obtain ⟨C, fz, h1, _⟩ := h; exact ⟨_, h1⟩
    | map es c => obtain ⟨es', h1, _⟩ := h; exact ⟨_, h1⟩
    | chan n => obtain ⟨o', h1, _⟩ := h; exact ⟨_, h1⟩
  obtain ⟨x, hx⟩ := this
  exact (Array.getElem?_eq_some_iff.1 hx).1
abbrev Hp := Nat → Option AO
structure Sim (P : Program) (M : Pm) (H : Hp) (w : World) : Prop where
  obj : ∀ b o, H b = some o → ∃ mi, M b = some mi ∧ OR P M o mi w
  inj : ∀ b b' o o' mi mi', H b = some o → H b' = some o' → M b = some mi → M b' = some mi' → mi.blk = mi'.blk → b = b'
def Fresh (M : Pm) (lo hi : Nat) : Prop := ∀ b, lo ≤ b → b < hi → M b = none
/-- A step: the known memory H, placed by M in w, becomes H' placed by M' in w'; new names are from lo to hi. -/
structure Stp (P : Program) (H : Hp) (M : Pm) (w : World) (H' : Hp) (M' : Pm) (w' : World) (lo hi : Nat) : Prop where
  sim : Sim P M' H' w'
  ext : ∀ b, ¬ (lo ≤ b ∧ b < hi) → M' b = M b
  size : w.heap.size ≤ w'.heap.size
  keep : ∀ c, c < w.heap.size → (∀ b o mi, H b = some o → o.wr = true → M b = some mi → mi.blk ≠ c) → w'.heap[c]? = w.heap[c]?
  born : ∀ b o mi, H' b = some o → M' b = some mi → w.heap.size ≤ mi.blk ∨ ∃ b0 o0 mi0, H b0 = some o0 ∧ M b0 = some mi0 ∧ mi0.blk = mi.blk ∧ (o.wr = true → o0.wr = true)
  dom : ∀ b, H' b ≠ none → H b ≠ none ∨ (lo ≤ b ∧ b < hi)
  os : w'.os = w.os
  tape : w'.tape = w.tape
  output : w'.output = w.output
  le : lo ≤ hi
section
variable {P : Program} {H H' H'' : Hp} {M M' M'' : Pm} {w w' w'' : World} {lo mid hi : Nat}
theorem Stp.Le (h : Stp P H M w H' M' w' lo hi) (hf : Fresh M lo hi) : ev.Le M M' := fun b mi hb => by
  rw [h.ext b (fun hr => by rw [hf b hr.1 hr.2] at hb; cases hb)]
  exact hb
theorem Stp.refl (h : Sim P M H w) (lo : Nat) : Stp P H M w H M w lo lo :=
  ⟨h, fun _ _ => rfl, Nat.le_refl _, fun _ _ _ => rfl, fun b o mi hb hm => .inr ⟨b, o, mi, hb, hm, rfl, id⟩, fun _b hb => .inl hb, rfl, rfl, rfl, Nat.le_refl _⟩
theorem Stp.trans (h : Stp P H M w H' M' w' lo mid) (k : Stp P H' M' w' H'' M'' w'' mid hi) : Stp P H M w H'' M'' w'' lo hi := by
  have h1 := h.le
  have h2 := k.le
  refine ⟨k.sim, fun b hb => ?_, Nat.le_trans h.size k.size, fun c hc hn => ?_, fun b o mi hb hm => ?_, fun b hb => ?_, k.os.trans h.os, k.tape.trans h.tape, k.output.trans h.output, Nat.le_trans h1 h2⟩
  · rw [k.ext b (by omega), h.ext b (by omega)]
  · rw [k.keep c (Nat.lt_of_lt_of_le hc h.size) fun b o mi hb ho hm e => ?_, h.keep c hc hn]
    rcases h.born b o mi hb hm with hs | ⟨b0, o0, mi0, hb0, hm0, he, hw⟩
    · omega
    · exact hn b0 o0 mi0 hb0 (hw ho) hm0 (he.trans e)
  · rcases k.born b o mi hb hm with hs | ⟨b1, o1, mi1, hb1, hm1, he1, hw1⟩
    · exact .inl (Nat.le_trans h.size hs)
    · rcases h.born b1 o1 mi1 hb1 hm1 with hs | ⟨b0, o0, mi0, hb0, hm0, he, hw⟩
      · exact .inl (he1 ▸ hs)
      · exact .inr ⟨b0, o0, mi0, hb0, hm0, he.trans he1, fun hx => hw (hw1 hx)⟩
  · rcases k.dom b hb with hb1 | hb1
    · rcases h.dom b hb1 with hb2 | hb2
      · exact .inl hb2
      · exact .inr (by omega)
    · exact .inr (by omega)
/-- A part of the memory is framed: what a step does on K it does on a larger memory. -/
theorem Stp.frame {K K' : Hp} (h : Stp P K M w K' M' w' lo hi) (hS : Sim P M H w) (hf : Fresh M lo hi) (hK : ∀ b o, K b = some o → H b = some o) (hH' : ∀ b, H' b = if K b = none ∧ K' b = none then H b else K' b) :
    Stp P H M w H' M' w' lo hi := by
  have hLe := h.Le hf
  have hM : ∀ b o, H b = some o → ∃ mi, M b = some mi := fun b o hb => let ⟨mi, hm, _⟩ := hS.obj b o hb; ⟨mi, hm⟩
  have hin : ∀ b o, H' b = some o → (K' b = some o) ∨ (K b = none ∧ K' b = none ∧ H b = some o) := by
    intro b o hb
    rw [hH' b] at hb
    by_cases hc : K b = none ∧ K' b = none
    · rw [if_pos hc] at hb; exact .inr ⟨hc.1, hc.2, hb⟩
    · rw [if_neg hc] at hb; exact .inl hb
  have hold : ∀ b o mi, H b = some o → K b = none → M b = some mi → w'.heap[mi.blk]? = w.heap[mi.blk]? := by
    intro b o mi hb hk hm
    obtain ⟨mi', hm', ho⟩ := hS.obj b o hb
    rw [hm] at hm'; cases hm'
    refine h.keep _ ho.lt fun b' o' mi' hb' _ hm' e => ?_
    have := hS.inj b' b o' o mi' mi (hK _ _ hb') hb hm' hm e
    subst this
    rw [hk] at hb'; cases hb'
  refine ⟨⟨fun b o hb => ?_, fun b b' o o' mi mi' hb hb' hm hm' he => ?_⟩, h.ext, h.size, fun c hc hn => ?_, fun b o mi hb hm => ?_, fun b hb => ?_, h.os, h.tape, h.output, h.le⟩
  · rcases hin b o hb with hk | ⟨hk, _, hb⟩
    · exact h.sim.obj b o hk
    · obtain ⟨mi, hm, ho⟩ := hS.obj b o hb
      exact ⟨mi, hLe _ _ hm, ho.mono hLe (hold b o mi hb hk hm)⟩
  · have hmix : ∀ b b' o o' mi mi', K' b = some o → (K b' = none ∧ K' b' = none ∧ H b' = some o') → M' b = some mi → M' b' = some mi' → mi.blk = mi'.blk → b = b' := by
      intro b b' o o' mi mi' hk ⟨hk1, hk2, hb'⟩ hm hm' he
      obtain ⟨mi2, hm2, ho2⟩ := hS.obj b' o' hb'
      have := hLe _ _ hm2
      rw [hm'] at this; cases this
      rcases h.born b o mi hk hm with hs | ⟨b0, o0, mi0, hb0, hm0, he0, _⟩
      · have := ho2.lt; omega
      · have e2 := hS.inj b0 b' o0 o' mi0 mi' (hK _ _ hb0) hb' hm0 hm2 (he0.trans he)
        subst e2
        rw [hk1] at hb0; cases hb0
    rcases hin b o hb with hk | hk <;> rcases hin b' o' hb' with hk' | hk'
    · exact h.sim.inj b b' o o' mi mi' hk hk' hm hm' he
    · exact hmix b b' o o' mi mi' hk hk' hm hm' he
    · exact (hmix b' b o' o mi' mi hk' hk hm' hm he.symm).symm
    · obtain ⟨mi2, hm2, _⟩ := hS.obj b o hk.2.2
      obtain ⟨mi3, hm3, _⟩ := hS.obj b' o' hk'.2.2
      have e2 := hLe _ _ hm2
      have e3 := hLe _ _ hm3
      rw [hm] at e2; rw [hm'] at e3; cases e2; cases e3
      exact hS.inj b b' o o' mi mi' hk.2.2 hk'.2.2 hm2 hm3 he
  · exact h.keep c hc fun b o mi hb ho hm => hn b o mi (hK b o hb) ho hm
  · rcases hin b o hb with hk | ⟨hk, _, hb⟩
    · rcases h.born b o mi hk hm with hs | ⟨b0, o0, mi0, hb0, hm0, he0, hw⟩
      · exact .inl hs
      · exact .inr ⟨b0, o0, mi0, hK _ _ hb0, hm0, he0, hw⟩
    · obtain ⟨mi2, hm2⟩ := hM b o hb
      have e2 := hLe _ _ hm2
      rw [hm] at e2; cases e2
      exact .inr ⟨b, o, mi, hb, hm2, rfl, id⟩
  · rw [hH' b] at hb
    by_cases hc : K b = none ∧ K' b = none
    · rw [if_pos hc] at hb; exact .inl hb
    · rw [if_neg hc] at hb
      rcases h.dom b hb with hk | hk
      · obtain ⟨o, ho⟩ := Option.ne_none_iff_exists'.1 hk
        exact .inl (by rw [hK b o ho]; simp)
      · exact .inr hk
/-- The world turns where nothing is known. -/
theorem Stp.world (hS : Sim P M H w) (h1 : w.heap.size ≤ w'.heap.size) (h2 : ∀ c, c < w.heap.size → w'.heap[c]? = w.heap[c]?) (h3 : w'.os = w.os) (h4 : w'.tape = w.tape) (h5 : w'.output = w.output) (lo : Nat) : Stp P H M w H M w' lo lo :=
  ⟨⟨fun b o hb => let ⟨mi, hm, ho⟩ := hS.obj b o hb; ⟨mi, hm, ho.mono (fun _ _ h => h) (h2 _ ho.lt)⟩, hS.inj⟩, fun _ _ => rfl, h1, fun c hc _ => h2 c hc, fun b o mi hb hm => .inr ⟨b, o, mi, hb, hm, rfl, id⟩, fun _b hb => .inl hb, h3, h4, h5, Nat.le_refl _⟩
theorem Stp.drewStp (hS : Sim P M H w) (lo : Nat) : Stp P H M w H M w.drew lo lo := .world (w' := w.drew) hS (Nat.le_refl _) (fun _ _ => rfl) rfl rfl rfl lo
def upd (H : Hp) (b : Nat) (o : Option AO) : Hp := fun c => if c = b then o else H c
/-- A new piece. -/
theorem Stp.allocW (hS : Sim P M H w) (hf : M lo = none) (o : AO) (mi : MI) (hb : mi.blk = w.heap.size) (hsz : w'.heap.size = w.heap.size + 1) (hblk : ∀ c, c < w.heap.size → w'.heap[c]? = w.heap[c]?)
    (h3 : w'.os = w.os) (h4 : w'.tape = w.tape) (h5 : w'.output = w.output) (ho : ∀ M', ev.Le M M' → OR P M' o mi w') :
    Stp P H M w (upd H lo (some o)) (fun c => if c = lo then some mi else M c) w' lo (lo + 1) := by
  have hLe : ev.Le M (fun c => if c = lo then some mi else M c) := fun c m hc => by
    by_cases e : c = lo
    · subst e; rw [hf] at hc; cases hc
    · simp only [if_neg e]; exact hc
  refine ⟨⟨fun b o' h => ?_, fun b b' o1 o2 m1 m2 h1 h2 e1 e2 he => ?_⟩, fun b hb' => ?_, by omega, fun c hc _ => hblk c hc, fun b o' m h e => ?_, fun b h => ?_, h3, h4, h5, Nat.le_succ _⟩
  · by_cases e : b = lo
    · subst e
      simp only [upd, if_pos] at h
      cases h
      exact ⟨mi, by simp, ho _ hLe⟩
    · simp only [upd, if_neg e] at h
      obtain ⟨m, hm, hor⟩ := hS.obj b o' h
      exact ⟨m, by simp only [if_neg e]; exact hm, hor.mono hLe (hblk _ hor.lt)⟩
  · have hne : ∀ b o m, b ≠ lo → H b = some o → M b = some m → m.blk ≠ mi.blk := fun b o m e h hm => by
      obtain ⟨m', hm', hor⟩ := hS.obj b o h
      rw [hm] at hm'; cases hm'
      have := hor.lt
      omega
    by_cases e : b = lo <;> by_cases e' : b' = lo
    · rw [e, e']
    · subst e
      simp only [upd, if_pos, if_neg e'] at h1 h2 e1 e2
      simp only [Option.some.injEq] at e1
      exact absurd (e1 ▸ he).symm (hne b' o2 m2 e' h2 e2)
    · subst e'
      simp only [upd, if_pos, if_neg e] at h1 h2 e1 e2
      simp only [Option.some.injEq] at e2
      exact absurd (e2 ▸ he) (hne b o1 m1 e h1 e1)
    · simp only [upd, if_neg e, if_neg e'] at h1 h2 e1 e2
      exact hS.inj b b' o1 o2 m1 m2 h1 h2 e1 e2 he
  · show (if b = lo then some mi else M b) = M b
    rw [if_neg (by omega)]
  · by_cases e2 : b = lo
    · subst e2
      simp only [if_pos, Option.some.injEq] at e
      exact .inl (by rw [← e, hb]; exact Nat.le_refl _)
    · simp only [upd, if_neg e2] at h e
      exact .inr ⟨b, o', m, h, e, rfl, id⟩
  · by_cases e2 : b = lo
    · exact .inr (by omega)
    · simp only [upd, if_neg e2] at h; exact .inl h
theorem Stp.alloc (hS : Sim P M H w) (hf : M lo = none) (o : AO) (ob : Obj) (mi : MI) (hb : mi.blk = w.heap.size) (ho : ∀ M', ev.Le M M' → OR P M' o mi (w.alloc ob)) :
    Stp P H M w (upd H lo (some o)) (fun c => if c = lo then some mi else M c) (w.alloc ob) lo (lo + 1) :=
  Stp.allocW hS hf o mi hb (by simp) (fun c hc => Below.heap_alloc _ _ _ hc) rfl rfl rfl ho
/-- A known piece goes on under a new name: the same block, written. -/
theorem Stp.move {b : Nat} {o o' : AO} {mi mi' : MI} (hS : Sim P M H w) (hb : H b = some o) (hwr : o.wr = true) (hm : M b = some mi) (hf : M lo = none) (hblk : mi'.blk = mi.blk) (hsz : w'.heap.size = w.heap.size)
    (hk : ∀ c, c ≠ mi.blk → w'.heap[c]? = w.heap[c]?) (h3 : w'.os = w.os) (h4 : w'.tape = w.tape) (h5 : w'.output = w.output) (ho : ∀ M', ev.Le M M' → OR P M' o' mi' w') :
    Stp P H M w (upd (upd H b none) lo (some o')) (fun c => if c = lo then some mi' else M c) w' lo (lo + 1) := by
  have hLe : ev.Le M (fun c => if c = lo then some mi' else M c) := fun c m hc => by
    by_cases e : c = lo
    · subst e; rw [hf] at hc; cases hc
    · simp only [if_neg e]; exact hc
  have hblo : b ≠ lo := fun e => by rw [e] at hm; rw [hf] at hm; cases hm
  have hin : ∀ c o2, c ≠ lo → upd (upd H b none) lo (some o') c = some o2 → H c = some o2 ∧ c ≠ b := fun c o2 e h => by
    simp only [upd, if_neg e] at h
    by_cases e2 : c = b
    · rw [if_pos e2] at h; cases h
    · rw [if_neg e2] at h; exact ⟨h, e2⟩
  have hne : ∀ c o2 m, H c = some o2 → c ≠ b → M c = some m → m.blk ≠ mi.blk := fun c o2 m h e hm2 he => e (hS.inj c b o2 o m mi h hb hm2 hm he)
  refine ⟨⟨fun c o2 h => ?_, fun c c' o1 o2 m1 m2 h1 h2 e1 e2 he => ?_⟩, fun c hc => ?_, Nat.le_of_eq hsz.symm, fun c hc hn => hk c fun e => hn b o mi hb hwr hm e.symm, fun c o2 m h e => ?_, fun c h => ?_, h3, h4, h5, Nat.le_succ _⟩
  · by_cases e : c = lo
    · subst e
      simp only [upd, if_pos] at h
      cases h
      exact ⟨mi', by simp, ho _ hLe⟩
    · obtain ⟨h1, h2⟩ := hin c o2 e h
      obtain ⟨m, hm2, hor⟩ := hS.obj c o2 h1
      exact ⟨m, by simp only [if_neg e]; exact hm2, hor.mono hLe (hk _ (hne c o2 m h1 h2 hm2))⟩
  · by_cases e : c = lo <;> by_cases e' : c' = lo
    · rw [e, e']
    · obtain ⟨q1, q2⟩ := hin c' o2 e' h2
      simp only [if_pos e, Option.some.injEq] at e1
      simp only [if_neg e'] at e2
      exact absurd ((hblk.symm.trans (e1 ▸ he))).symm (hne c' o2 m2 q1 q2 e2)
    · obtain ⟨q1, q2⟩ := hin c o1 e h1
      simp only [if_pos e', Option.some.injEq] at e2
      simp only [if_neg e] at e1
      exact absurd ((e2 ▸ he).trans hblk) (hne c o1 m1 q1 q2 e1)
    · obtain ⟨q1, q2⟩ := hin c o1 e h1
      obtain ⟨q3, q4⟩ := hin c' o2 e' h2
      simp only [if_neg e, if_neg e'] at e1 e2
      exact hS.inj c c' o1 o2 m1 m2 q1 q3 e1 e2 he
  · show (if c = lo then some mi' else M c) = M c
    rw [if_neg (by omega)]
  · by_cases e2 : c = lo
    · simp only [if_pos e2, Option.some.injEq] at e
      exact .inr ⟨b, o, mi, hb, hm, by rw [← e, hblk], fun _ => hwr⟩
    · obtain ⟨q1, q2⟩ := hin c o2 e2 h
      simp only [if_neg e2] at e
      exact .inr ⟨c, o2, m, q1, e, rfl, id⟩
  · by_cases e2 : c = lo
    · exact .inr (by omega)
    · obtain ⟨o2, ho2⟩ := Option.ne_none_iff_exists'.1 h
      exact .inl (by rw [(hin c o2 e2 ho2).1]; simp)
/-- A known piece that may be written turns. -/
theorem Stp.turn {b : Nat} {o o' : AO} {mi : MI} (hS : Sim P M H w) (hb : H b = some o) (hwr : o.wr = true) (hm : M b = some mi) (hsz : w'.heap.size = w.heap.size)
    (hk : ∀ c, c ≠ mi.blk → w'.heap[c]? = w.heap[c]?) (ho : OR P M o' mi w') (h3 : w'.os = w.os) (h4 : w'.tape = w.tape) (h5 : w'.output = w.output) (lo : Nat) : Stp P H M w (upd H b (some o')) M w' lo lo := by
  have hne : ∀ b2 o2 m2, b2 ≠ b → H b2 = some o2 → M b2 = some m2 → m2.blk ≠ mi.blk := fun b2 o2 m2 e h hm2 he => e (hS.inj b2 b o2 o m2 mi h hb hm2 hm he)
  refine ⟨⟨fun b2 o2 h => ?_, fun b2 b' o1 o2 m1 m2 h1 h2 e1 e2 he => ?_⟩, fun _ _ => rfl, Nat.le_of_eq hsz.symm, fun c hc hn => ?_, fun b2 o2 m h e => ?_, fun b2 h => ?_, h3, h4, h5, Nat.le_refl _⟩
  · by_cases e : b2 = b
    · subst e
      simp only [upd, if_pos] at h
      cases h
      exact ⟨mi, hm, ho⟩
    · simp only [upd, if_neg e] at h
      obtain ⟨m, hm2, hor⟩ := hS.obj b2 o2 h
      exact ⟨m, hm2, hor.mono (fun _ _ h => h) (hk _ (hne b2 o2 m e h hm2))⟩
  · by_cases e : b2 = b <;> by_cases e' : b' = b
    · rw [e, e']
    · subst e
      rw [hm] at e1; cases e1
      simp only [upd, if_neg e'] at h2
      exact absurd he.symm (hne b' o2 m2 e' h2 e2)
    · subst e'
      rw [hm] at e2; cases e2
      simp only [upd, if_neg e] at h1
      exact absurd he (hne b2 o1 m1 e h1 e1)
    · simp only [upd, if_neg e, if_neg e'] at h1 h2
      exact hS.inj b2 b' o1 o2 m1 m2 h1 h2 e1 e2 he
  · exact hk c fun e => hn b o mi hb hwr hm e.symm
  · by_cases e2 : b2 = b
    · subst e2
      exact .inr ⟨b2, o, mi, hb, hm, by rw [hm] at e; cases e; rfl, fun _ => hwr⟩
    · simp only [upd, if_neg e2] at h
      exact .inr ⟨b2, o2, m, h, e, rfl, id⟩
  · by_cases e2 : b2 = b
    · subst e2; exact .inl (by rw [hb]; simp)
    · simp only [upd, if_neg e2] at h; exact .inl h
/-- A known piece is forgotten. -/
theorem Stp.drop {b : Nat} (hS : Sim P M H w) (lo : Nat) : Stp P H M w (upd H b none) M w lo lo := by
  have hin : ∀ b2 o2, upd H b none b2 = some o2 → H b2 = some o2 := fun b2 o2 h => by
    by_cases e : b2 = b
    · simp only [upd, if_pos e] at h; cases h
    · simp only [upd, if_neg e] at h; exact h
  exact ⟨⟨fun b2 o2 h => hS.obj b2 o2 (hin b2 o2 h), fun b2 b' o1 o2 m1 m2 h1 h2 => hS.inj b2 b' o1 o2 m1 m2 (hin _ _ h1) (hin _ _ h2)⟩, fun _ _ => rfl, Nat.le_refl _, fun _ _ _ => rfl,
    fun b2 o2 m h e => .inr ⟨b2, o2, m, hin _ _ h, e, rfl, id⟩, fun b2 h => .inl (by obtain ⟨o, ho⟩ := Option.ne_none_iff_exists'.1 h; rw [hin _ _ ho]; simp), rfl, rfl, rfl, Nat.le_refl _⟩
/-- The names of a part are known: a smaller memory. -/
theorem Sim.sub {K : Hp} (h : Sim P M H w) (hK : ∀ b o, K b = some o → H b = some o) : Sim P M K w :=
  ⟨fun b o hb => h.obj b o (hK b o hb), fun b b' o o' mi mi' hb hb' => h.inj b b' o o' mi mi' (hK _ _ hb) (hK _ _ hb')⟩
end
/-! ### Cells -/
theorem setCells_block (b : Nat) : ∀ (vs : List Value) (o : Nat) (w : World) (c : Nat), c ≠ b → (w.setCells b o vs).heap[c]? = w.heap[c]?
  | [], _, _, _, _ => rfl
  | v :: r, o, w, c, h => (setCells_block b r (o + 1) _ c h).trans (Below.heap_setCell w ⟨b, o, none⟩ v c h)
theorem setCells_size (b : Nat) : ∀ (vs : List Value) (o : Nat) (w : World), (w.setCells b o vs).heap.size = w.heap.size
  | [], _, _ => rfl
  | _v :: r, o, _w => (setCells_size b r (o + 1) _).trans (World.size_setCell _ _ _)
theorem setCells_rest (b : Nat) : ∀ (vs : List Value) (o : Nat) (w : World), (w.setCells b o vs).os = w.os ∧ (w.setCells b o vs).tape = w.tape ∧ (w.setCells b o vs).output = w.output
  | [], _, _ => ⟨rfl, rfl, rfl⟩
  | _v :: r, o, _w => setCells_rest b r (o + 1) _
theorem setCells_at (b : Nat) (e : TypeId) (fz : Nat × Nat) : ∀ (vs : List Value) (o : Nat) (w : World) (C : Array Value), w.heap[b]? = some (.cells C e fz) → o + vs.length ≤ C.size →
    ∃ C', (w.setCells b o vs).heap[b]? = some (.cells C' e fz) ∧ C'.size = C.size ∧ ∀ i, C'[i]? = if o ≤ i ∧ i < o + vs.length then vs[i - o]? else C[i]?
  | [], o, w, C, h, _ => ⟨C, h, rfl, fun i => by simp; omega⟩
  | v :: r, o, w, C, h, hl => by
    have h1 : (w.setCell ⟨b, o, none⟩ v).heap[b]? = some (.cells (C.setIfInBounds o v) e fz) := by
      show (w.heap.modify b _)[b]? = _
      rw [Array.getElem?_modify, if_pos rfl, h]
      rfl
    obtain ⟨C', h2, h3, h4⟩ := setCells_at b e fz r (o + 1) _ _ h1 (by simp at hl ⊢; omega)
    refine ⟨C', h2, by rw [h3]; simp, fun i => ?_⟩
    rw [h4 i]
    simp only [List.length_cons] at hl ⊢
    by_cases hi : i = o
    · subst hi
      rw [if_neg (by omega), if_pos (by omega), Nat.sub_self, Array.getElem?_setIfInBounds_self_of_lt (by omega)]
      rfl
    · rw [Array.getElem?_setIfInBounds_ne (fun e => hi e.symm)]
      by_cases hc : o + 1 ≤ i ∧ i < o + 1 + r.length
      · rw [if_pos hc, if_pos (by omega), show i - o = (i - (o + 1)) + 1 by omega]
        rfl
      · rw [if_neg hc, if_neg (by omega)]
section
variable {P : Program} {H : Hp} {M : Pm} {w : World}
/-- cells of a known piece are in the world -/
theorem OR.cell {cs : List Value} {e : TypeId} {ro : Bool} {mi : MI} (h : OR P M (.cells cs e ro) mi w) {i : Nat} {v : Value} (hv : cs[i]? = some v) : ∃ v', w.cell? ⟨mi.blk, mi.sh + i, none⟩ = some v' ∧ VR M v v' := by
  obtain ⟨C, fz, h1, h2, h3, h4, _⟩ := h
  obtain ⟨v', a, b⟩ := h4 i v hv
  exact ⟨v', by simp [World.cell?, h1, a], b⟩
/-- a run of cells of a known piece -/
theorem OR.cellsL {cs : List Value} {e : TypeId} {ro : Bool} {mi : MI} (h : OR P M (.cells cs e ro) mi w) {o k : Nat} (hk : k ≤ (cs.drop o).length) :
    ∃ l', LR M ((cs.drop o).take k) l' ∧ (∀ j v, l'[j]? = some v → w.cell? ⟨mi.blk, mi.sh + o + j, none⟩ = some v) ∧ (∀ w2 : World, w2.heap = w.heap → ∀ j v, l'[j]? = some v → w2.cell? ⟨mi.blk, mi.sh + o + j, none⟩ = some v) := by
  obtain ⟨C, fz, h1, h2, h3, h4, _⟩ := h
  simp only [List.length_drop] at hk
  refine ⟨(C.toList.drop (mi.sh + o)).take k, ⟨by simp; omega, fun i v v' a b => ?_⟩, fun j v hj => ?_, fun w2 hw j v hj => ?_⟩
  · rw [List.getElem?_take] at a b
    split at a
    · rename_i hi
      rw [if_pos hi] at b
      rw [List.getElem?_drop] at a b
      obtain ⟨u, hu, hr⟩ := h4 _ v a
      rw [Array.getElem?_toList, show mi.sh + o + i = mi.sh + (o + i) by omega, hu] at b
      cases b
      exact hr
    · cases a
  all_goals
    rw [List.getElem?_take] at hj
    split at hj
    · rw [List.getElem?_drop, Array.getElem?_toList] at hj
      first
        | (simp [World.cell?, h1, hj]; done)
        | (simp [World.cell?, hw, h1, hj]; done)
    · cases hj
/-- a store of cells into a known piece that may be written -/
theorem store_stp {b o : Nat} {cs cs' vs vs' : List Value} {e : TypeId} {mi : MI} (hS : Sim P M H w) (hb : H b = some (.cells cs e false)) (hm : M b = some mi) (hp : sPut o vs cs = some cs') (hv : LR M vs vs') (lo : Nat) :
    (∀ j, j < vs'.length → (w.cell? ⟨mi.blk, mi.sh + o + j, none⟩).isSome = true) ∧ (∀ j, j < vs'.length → w.frozen? ⟨mi.blk, mi.sh + o + j, none⟩ = false) ∧
    Stp P H M w (upd H b (some (.cells cs' e false))) M (w.setCells mi.blk (mi.sh + o) vs') lo lo := by
  obtain ⟨mi', hm', hor⟩ := hS.obj b _ hb
  rw [hm] at hm'; cases hm'
  obtain ⟨C, fz, h1, h2, h3, h4, h5, h6⟩ := hor
  obtain ⟨p1, p2, p3⟩ := sPut_some hp
  have hl := hv.1
  have hfz := h6.1 rfl
  refine ⟨fun j hj => ?_, fun j hj => ?_, ?_⟩
  · have : mi.sh + o + j < C.size := by omega
    simp [World.cell?, h1, this]
  · have : mi.sh + o + j < C.size := by omega
    simp only [World.frozen?, h1]
    rcases hfz with hz | hz
    · rw [hz]; simp; try omega
    · simp; try omega
  · obtain ⟨C', q1, q2, q3⟩ := setCells_at mi.blk e fz vs' (mi.sh + o) w C h1 (by omega)
    obtain ⟨r1, r2, r3⟩ := setCells_rest mi.blk vs' (mi.sh + o) w
    refine Stp.turn (o' := .cells cs' e false) hS hb rfl hm (setCells_size _ _ _ _) (fun c hc => setCells_block _ _ _ _ c hc) ⟨C', fz, q1, q2.trans h2, by rw [p2]; exact h3, fun i v hi => ?_, h5, h6.1, fun ht => by rw [p2]; exact h6.2 ht⟩ r1 r2 r3 lo
    rw [p3 i] at hi
    rw [q3]
    by_cases hc : o ≤ i ∧ i < o + vs.length
    · rw [if_pos hc] at hi
      rw [if_pos (by omega), show mi.sh + i - (mi.sh + o) = i - o by omega]
      exact hv.get hi
    · rw [if_neg hc] at hi
      rw [if_neg (by omega)]
      exact h4 i v hi
/-- a new row of cells -/
theorem alloc_stp {lo : Nat} {cs : List Value} {C : Array Value} (hS : Sim P M H w) (hf : M lo = none) (e : TypeId) (hl : cs.length ≤ C.size) (hT : e = TB → cs.length = C.size) (hv : ∀ (i : Nat) (v : Value), cs[i]? = some v → ∃ v', C[i]? = some v' ∧ VR M v v') :
    ∃ M' mi, M' lo = some mi ∧ mi.blk = w.heap.size ∧ mi.sh = 0 ∧ mi.tot = C.size ∧ (∀ k, szOf P e = some k → mi.esz = k) ∧ Le M M' ∧ Stp P H M w (upd H lo (some (.cells cs e false))) M' (w.alloc (.cells C e)) lo (lo + 1) := by
  let mi : MI := ⟨w.heap.size, 0, C.size, (szOf P e).getD 0⟩
  have hk : ∀ k, szOf P e = some k → mi.esz = k := fun k h => by show (szOf P e).getD 0 = k; rw [h]; rfl
  have hst := Stp.alloc (lo := lo) hS hf (.cells cs e false) (.cells C e) mi rfl fun M' hM => ⟨C, (0, 0), by show (w.heap.push _)[w.heap.size]? = _; simp, rfl, by show 0 + _ ≤ C.size; omega, fun i v hi => by
    obtain ⟨v', a, b⟩ := hv i v hi
    exact ⟨v', by show C[0 + i]? = _; rw [Nat.zero_add]; exact a, b.mono hM⟩, hk, fun _ => .inl rfl, fun ht => ⟨rfl, hT ht⟩⟩
  refine ⟨_, mi, by simp, rfl, rfl, rfl, hk, ?_, hst⟩
  exact hst.Le fun b h1 h2 => by have : b = lo := by omega
                                 subst this; exact hf
end
end Go.Proofs.YtgdlfecppecooaaGreatDoor.ev
