/- SyntaxWords, walked. -/
import Derived.Test.YtooockbfagkknaaDoorSynRuns
import Derived.Laws.BytesString
import Derived.Deep.RegionHeld3
namespace Go.Proofs.YtooockbfagkknaaDoor.syn
open Go.RowKit Go.Proofs.YtooockbfagkknaaDoor.sl Go.Proofs.YtooockbfagkknaaDoor.cls
theorem foldl_push : ∀ (t : List UInt8) (s : ByteArray), (t.map fun c => (c.toNat : Int)).foldl (fun r n => r.push (UInt8.ofNat n.toNat)) s = s ++ ⟨t.toArray⟩
  | [], s => by
    apply ByteArray.ext
    simp
  | c :: t, s => by
    rw [List.map_cons, List.foldl_cons, foldl_push t]
    apply ByteArray.ext
    simp
theorem conv_bytes {w : World} {a : Option Addr} {t : List UInt8} {cap : Nat} (h : Rd eB w a t cap) : (convert 40 9 (.slice a t.length cap)).run Tryd.prog w = .ok (.string ⟨t.toArray⟩) w := by
  rw [run_convert_bytes_string w _ _ _ _ _ _ Tryd.underlying40 Tryd.underlying5 Tryd.underlying9]
  rcases a with _ | ⟨b, off, sp⟩
  · obtain ⟨rfl, rfl⟩ := h.none_ rfl
    rfl
  · have hl := run_loadCells_list (P := Tryd.prog) w ⟨b, off, sp⟩ (Lib.byteCells t) (fun j v hj => by
      have hle := h.le
      have hp : 0 < t.length := by
        rcases t with _ | ⟨x, t⟩
        · simp [Lib.byteCells] at hj
        · simp
      obtain ⟨hsp, _, hc⟩ := h.at_ _ rfl (by omega)
      obtain rfl : sp = none := hsp
      rw [Addr.add_lit]
      exact hc j v (by rw [flat_eB]; exact hj))
    have hlen : (Lib.byteCells t).length = t.length := Lib.byteCells_length t
    rw [hlen] at hl
    have e : Lib.byteCells t = (t.map fun c => (c.toNat : Int)).map (Value.int .u8) := by simp [Lib.byteCells]
    rw [e] at hl
    rw [run_bytesToString w _ _ _ _ hl, foldl_push]
    congr 2
theorem firstF_asc {c : UInt8} {t : List UInt8} (h : c.toNat < 128) : firstF (c :: t) = ((c.toNat : Int), 1) := by
  have hm : moreF c.toNat = (0, 0, 0) := by unfold moreF; rw [if_pos h]
  simp [firstF, hm, contGo, start]
theorem allGo_asc : ∀ (t : List UInt8) (n : Nat), t.length ≤ n → (∀ c ∈ t, c.toNat < 128) → allGo n t = asc t
  | [], n, _, _ => by rw [allGo_nil]; rfl
  | c :: t, 0, h, _ => by simp at h
  | c :: t, n + 1, h, ha => by
    have hf := firstF_asc (t := t) (ha c (by simp))
    rw [allGo_ok (by simp) (m := 1) (by rw [hf]; rfl) (by omega), hf]
    show _ = ((c.toNat : Int), 1) :: asc t
    rw [List.drop_one, List.tail_cons, allGo_asc t n (by simpa using h) (fun d hd => ha d (by simp [hd]))]
theorem allF_asc {t : List UInt8} (ha : ∀ c ∈ t, c.toNat < 128) : allF t = asc t := allGo_asc t _ (Nat.le_refl _) ha
theorem let_lt {c : UInt8} (h : letR c.toNat = true) : c.toNat < 128 := by
  rw [letR_iff] at h
  omega
theorem words_parse {t : List UInt8} (ht : ∀ c ∈ t, letR c.toNat = true) (hl : t.length ≤ 40) : parseF t = (rowN (t.map fun c => (c.toNat : Int)), 0, 0) := by
  unfold parseF
  rw [if_neg (by omega), allF_asc fun c hc => let_lt (ht c hc), parse_lets t ht]
theorem words_parse2 {t : List UInt8} (ht : ∀ c ∈ t, letR c.toNat = true) (hl : t.length ≤ 40) : parseF ([40, 63, 58, 40, 63, 58] ++ t ++ [41, 41]) = (rowN (t.map fun c => (c.toNat : Int)), 0, 0) := by
  unfold parseF
  rw [if_neg (by simp; omega), allF_asc, parse_nested t ht]
  intro c hc
  simp only [List.mem_append, List.mem_cons, List.not_mem_nil, or_false] at hc
  rcases hc with (hc | hc) | hc
  · rcases hc with rfl | rfl | rfl | rfl | rfl | rfl <;> decide
  · exact let_lt (ht c hc)
  · rcases hc with rfl | rfl <;> decide
theorem flat_one : ∀ rs : List Int, (rs.map fun r => [ndC (singleF r)]).flatten = rs.map fun r => ndC (singleF r)
  | [] => rfl
  | r :: rs => by rw [List.map_cons, List.flatten_cons, flat_one rs]; rfl
theorem rowN_many {rs : List Int} (h : 2 ≤ rs.length) : rowN rs = { nd 3 with kids := rs.length } :: rs.map fun r => ndC (singleF r) := by
  rcases rs with _ | ⟨a, _ | ⟨b, rs⟩⟩
  · simp at h
  · simp at h
  · unfold rowN
    rw [← flat_one]
    simp [joined]
/-- The letters of a text. -/
def letsF (s : List UInt8) (k : Nat) : List UInt8 := (s.take k).filter fun c => letR c.toNat
theorem letsF_step {s : List UInt8} {k : Nat} {c : UInt8} (h : s[k]? = some c) : letsF s (k + 1) = letsF s k ++ if letR c.toNat then [c] else [] := by
  unfold letsF
  rw [List.take_add_one, h, List.filter_append]
  cases hh : letR c.toNat <;> simp [hh]
theorem letsF_len (s : List UInt8) (k : Nat) : (letsF s k).length ≤ k := by
  unfold letsF
  have := List.length_filter_le (fun c : UInt8 => letR c.toNat) (s.take k)
  have := List.length_take_le k s
  omega
theorem letsF_let (s : List UInt8) (k : Nat) : ∀ c ∈ letsF s k, letR c.toNat = true := by
  intro c hc
  unfold letsF at hc
  exact (List.mem_filter.1 hc).2
theorem let_cases (c : UInt8) : (letR c.toNat = true ∧ (((97 : Int) ≤ (c.toNat : Int) ∧ (c.toNat : Int) ≤ (122 : Int)) ∨ (¬ (97 : Int) ≤ (c.toNat : Int) ∧ (65 : Int) ≤ (c.toNat : Int) ∧ (c.toNat : Int) ≤ (90 : Int)) ∨ (¬ (97 : Int) ≤ (c.toNat : Int) ∧ ¬ (65 : Int) ≤ (c.toNat : Int) ∧ (48 : Int) ≤ (c.toNat : Int) ∧ (c.toNat : Int) ≤ (57 : Int)) ∨ (¬ (97 : Int) ≤ (c.toNat : Int) ∧ ¬ (65 : Int) ≤ (c.toNat : Int) ∧ ¬ (48 : Int) ≤ (c.toNat : Int) ∧ ((c.toNat : Int) == 32) = true) ∨ (¬ (97 : Int) ≤ (c.toNat : Int) ∧ (65 : Int) ≤ (c.toNat : Int) ∧ ¬ (c.toNat : Int) ≤ (90 : Int) ∧ (48 : Int) ≤ (c.toNat : Int) ∧ ¬ (c.toNat : Int) ≤ (57 : Int) ∧ ((c.toNat : Int) == 32) = false ∧ ((c.toNat : Int) == 95) = true))) ∨ (letR c.toNat = false ∧ (((97 : Int) ≤ (c.toNat : Int) ∧ ¬ (c.toNat : Int) ≤ (122 : Int) ∧ (65 : Int) ≤ (c.toNat : Int) ∧ ¬ (c.toNat : Int) ≤ (90 : Int) ∧ (48 : Int) ≤ (c.toNat : Int) ∧ ¬ (c.toNat : Int) ≤ (57 : Int) ∧ ((c.toNat : Int) == 32) = false ∧ ((c.toNat : Int) == 95) = false) ∨ (¬ (97 : Int) ≤ (c.toNat : Int) ∧ (65 : Int) ≤ (c.toNat : Int) ∧ ¬ (c.toNat : Int) ≤ (90 : Int) ∧ (48 : Int) ≤ (c.toNat : Int) ∧ ¬ (c.toNat : Int) ≤ (57 : Int) ∧ ((c.toNat : Int) == 32) = false ∧ ((c.toNat : Int) == 95) = false) ∨ (¬ (97 : Int) ≤ (c.toNat : Int) ∧ ¬ (65 : Int) ≤ (c.toNat : Int) ∧ (48 : Int) ≤ (c.toNat : Int) ∧ ¬ (c.toNat : Int) ≤ (57 : Int) ∧ ((c.toNat : Int) == 32) = false ∧ ((c.toNat : Int) == 95) = false) ∨ (¬ (97 : Int) ≤ (c.toNat : Int) ∧ ¬ (65 : Int) ≤ (c.toNat : Int) ∧ ¬ (48 : Int) ≤ (c.toNat : Int) ∧ ((c.toNat : Int) == 32) = false ∧ ((c.toNat : Int) == 95) = false))) := by
  have hc := c.toNat_lt
  cases hl : letR c.toNat
  · right
    refine ⟨rfl, ?_⟩
    have hn : ¬ letR c.toNat = true := by rw [hl]; simp
    rw [letR_iff] at hn
    simp only [beq_eq_false_iff_ne, ne_eq]
    omega
  · left
    refine ⟨rfl, ?_⟩
    rw [letR_iff] at hl
    simp only [beq_eq_false_iff_ne, beq_iff_eq, ne_eq]
    omega

theorem rd_drew {α : Type} {enc : α → List Value} {w : World} {a : Option Addr} {l : List α} {cap : Nat} (h : Rd enc w a l cap) : Rd enc w.drew a l cap := ⟨h.none_, h.le, h.max, h.at_⟩
theorem past_below {w w' : World} {B : Nat} {a : World} {o : Obj} (h : Below B a w) (b : Below (w.alloc o).drew.heap.size (w.alloc o).drew w') (hB : B ≤ w.heap.size) : Below B a w' :=
  (below_drew (h.alloc hB o)).trans (b.mono (Nat.le_trans hB (by show w.heap.size ≤ (w.alloc o).heap.size; simp)))
theorem cell_past {w w' : World} {o : Obj} {p : Addr} {u : Value} (h : w.cell? p = some u) (b : Below (w.alloc o).drew.heap.size (w.alloc o).drew w') : w'.cell? p = some u :=
  ((past_below (Below.refl w.heap.size w) b (Nat.le_refl _)).cell (cell_lt h)).trans h
theorem word_node {T : List UInt8} {ls : List NdV} (ht : ∀ c ∈ T, letR c.toNat = true) (hm : ls.map NdV.x = rowN (T.map fun c => (c.toNat : Int))) (a : Nat) (ha : (a = 0 ∧ T.length = 1) ∨ (a = 1 ∧ 2 ≤ T.length)) :
    ls.length = a + T.length ∧ ∀ (j : Nat) (c : UInt8), T[j]? = some c → ∃ y, ls[a + j]? = some y ∧ y.x.r = [((c.toNat : Int), (c.toNat : Int))] := by
  have sg : ∀ c ∈ T, singleF c.toNat = [((c.toNat : Int), (c.toNat : Int))] := fun c hc => single_is (by
    have h1 := ht c hc
    rw [letR_iff] at h1
    rw [valid_iff]
    omega)
  have hl : ls.length = (rowN (T.map fun c => (c.toNat : Int))).length := by rw [← hm, List.length_map]
  have key : ∀ (i : Nat) (x : Nd), (rowN (T.map fun c => (c.toNat : Int)))[i]? = some x → ∃ y, ls[i]? = some y ∧ y.x = x := fun i x h => by
    rw [← hm, List.getElem?_map, Option.map_eq_some_iff] at h
    exact h
  rcases ha with ⟨rfl, h1⟩ | ⟨rfl, h2⟩
  · obtain ⟨d, rfl⟩ := List.length_eq_one_iff.1 h1
    refine ⟨by rw [hl]; rfl, fun j c hc => ?_⟩
    have hj := (List.getElem?_eq_some_iff.1 hc).1
    obtain rfl : j = 0 := by simpa using hj
    obtain rfl : d = c := by simpa using hc
    obtain ⟨y, h1, h2⟩ := key 0 _ rfl
    exact ⟨y, h1, by rw [h2]; exact sg d (by simp)⟩
  · rw [rowN_many (by simpa using h2)] at hl key
    refine ⟨by rw [hl]; simp; omega, fun j c hc => ?_⟩
    obtain ⟨y, h1, h2⟩ := key (1 + j) (ndC (singleF c.toNat)) (by rw [Nat.add_comm, List.getElem?_cons_succ, List.getElem?_map, List.getElem?_map, hc]; rfl)
    exact ⟨y, h1, by rw [h2]; exact sg c (List.mem_of_getElem? hc)⟩
theorem word_head {T : List UInt8} {ls : List NdV} (hm : ls.map NdV.x = rowN (T.map fun c => (c.toNat : Int))) (h2 : 2 ≤ T.length) : ∃ y, ls[0]? = some y ∧ y.x.op = 3 ∧ y.x.kids = (T.length : Int) := by
  rw [rowN_many (by simpa using h2)] at hm
  have h : (ls.map NdV.x)[0]? = some { nd 3 with kids := ((T.map fun c => (c.toNat : Int)).length : Int) } := by rw [hm]; rfl
  rw [List.getElem?_map, Option.map_eq_some_iff] at h
  obtain ⟨y, h1, h3⟩ := h
  refine ⟨y, h1, by rw [h3]; rfl, by rw [h3]; simp⟩
set_option maxHeartbeats 8000000 in
set_option maxRecDepth 100000 in
theorem wordsC (s : List UInt8) (hs : s.length ≤ 9223372036854775807) (w : World) (hT : Tab w) : Calls Tryd.prog 5 #[str s] w fun e w' => e = .returned (.bool true) ∧ Below w.heap.size w w' := by
  obtain ⟨bs, hbs⟩ : ∃ bs : ByteArray, bs = ⟨s.toArray⟩ := ⟨_, rfl⟩
  have sz : bs.size = s.length := by rw [hbs, str_size]
  have hget : ∀ (i : Nat) (h : i < bs.size), s[i]? = some bs[i] := fun i h => by subst hbs; simp [ByteArray.getElem_eq_getElem_data]
  show Calls Tryd.prog 5 #[.string ⟨s.toArray⟩] w _
  rw [← hbs]
  have HG := Lib.hid hget
  have HT := Lib.hid hT
  have hz : bs.size ≤ 9223372036854775807 := by omega
  clear hbs sz hget hT
  go_enter Tryd.func5, Tryd.ntmps5
  go_wp2_with fail
  go_loopg [3, 4] 41 (fun gh v i wr => ∃ k : Nat, k ≤ bs.size ∧ k ≤ 40 ∧ gh = 41 - k ∧ i = .int .i64 k ∧ Own eB 1 5 w.heap.size wr v (letsF s k) ∧ Below w.heap.size w wr)
  case atStart => exact ⟨0, Nat.zero_le _, by decide, rfl, rfl, Own.nil _ _ _ _ _, Below.refl _ _⟩
  case round =>
    obtain ⟨k, hk, hk40, rfl, rfl, o, b⟩ := hrel
    have O := Lib.hid o
    have B := Lib.hid b
    have hsz := b.size
    obtain ⟨ta, tc, hv, rt, -⟩ := o.rd
    subst hv
    have RT := Lib.hid rt
    clear rt
    have hacc : (letsF s k).length < 1000000000 := by have := letsF_len s k; omega
    clear o b
    by_cases hlt : k < bs.size
    · have i1 : (k : Int) < (bs.size : Int) := by omega
      by_cases hlt4 : k < 40
      · have i2 : (k : Int) < 40 := by omega
        have ST := Lib.hid (letsF_step (HG.out k hlt))
        have LC := Lib.hid (let_cases bs[k])
        generalize hc : bs[k] = c at ST LC
        rcases LC.out with ⟨hl, hcs⟩ | ⟨hl, hcs⟩
        · rw [hl, if_pos rfl] at ST
          clear hl LC
          rcases hcs with ⟨x0, x1⟩ | ⟨x0, x1, x2⟩ | ⟨x0, x1, x2, x3⟩ | ⟨x0, x1, x2, x3⟩ | ⟨x0, x1, x2, x3, x4, x5, x6⟩
          · go_wp2_with (at_builtin; go_must (refine wpList_app1 elem_b rfl rfl rfl rfl (by simp) O.out c rfl eB_len eB_one hacc (by omega) hsz ?_; intro v3 w3 o3 g3; have O3 := Lib.hid o3; have B3 := Lib.hid (grow_below B.out O.out g3 (Nat.le_refl _) hsz); clear o3 g3))
            go_roundg (41 - (k + 1))
            case measure => omega
            case rel => exact ⟨k + 1, by omega, by omega, rfl, by go_num, by rw [ST.out]; exact O3.out, B3.out⟩
          · go_wp2_with (at_builtin; go_must (refine wpList_app1 elem_b rfl rfl rfl rfl (by simp) O.out c rfl eB_len eB_one hacc (by omega) hsz ?_; intro v3 w3 o3 g3; have O3 := Lib.hid o3; have B3 := Lib.hid (grow_below B.out O.out g3 (Nat.le_refl _) hsz); clear o3 g3))
            go_roundg (41 - (k + 1))
            case measure => omega
            case rel => exact ⟨k + 1, by omega, by omega, rfl, by go_num, by rw [ST.out]; exact O3.out, B3.out⟩
          · go_wp2_with (at_builtin; go_must (refine wpList_app1 elem_b rfl rfl rfl rfl (by simp) O.out c rfl eB_len eB_one hacc (by omega) hsz ?_; intro v3 w3 o3 g3; have O3 := Lib.hid o3; have B3 := Lib.hid (grow_below B.out O.out g3 (Nat.le_refl _) hsz); clear o3 g3))
            go_roundg (41 - (k + 1))
            case measure => omega
            case rel => exact ⟨k + 1, by omega, by omega, rfl, by go_num, by rw [ST.out]; exact O3.out, B3.out⟩
          · go_wp2_with (at_builtin; go_must (refine wpList_app1 elem_b rfl rfl rfl rfl (by simp) O.out c rfl eB_len eB_one hacc (by omega) hsz ?_; intro v3 w3 o3 g3; have O3 := Lib.hid o3; have B3 := Lib.hid (grow_below B.out O.out g3 (Nat.le_refl _) hsz); clear o3 g3))
            go_roundg (41 - (k + 1))
            case measure => omega
            case rel => exact ⟨k + 1, by omega, by omega, rfl, by go_num, by rw [ST.out]; exact O3.out, B3.out⟩
          · go_wp2_with (at_builtin; go_must (refine wpList_app1 elem_b rfl rfl rfl rfl (by simp) O.out c rfl eB_len eB_one hacc (by omega) hsz ?_; intro v3 w3 o3 g3; have O3 := Lib.hid o3; have B3 := Lib.hid (grow_below B.out O.out g3 (Nat.le_refl _) hsz); clear o3 g3))
            go_roundg (41 - (k + 1))
            case measure => omega
            case rel => exact ⟨k + 1, by omega, by omega, rfl, by go_num, by rw [ST.out]; exact O3.out, B3.out⟩
        · rw [hl, if_neg (by simp), List.append_nil] at ST
          clear hl LC
          rcases hcs with ⟨x0, x1, x2, x3, x4, x5, x6, x7⟩ | ⟨x0, x1, x2, x3, x4, x5, x6⟩ | ⟨x0, x1, x2, x3, x4, x5⟩ | ⟨x0, x1, x2, x3, x4⟩
          · go_wp2_with fail
            go_roundg (41 - (k + 1))
            case measure => omega
            case rel => exact ⟨k + 1, by omega, by omega, rfl, by go_num, by rw [ST.out]; exact O.out, B.out⟩
          · go_wp2_with fail
            go_roundg (41 - (k + 1))
            case measure => omega
            case rel => exact ⟨k + 1, by omega, by omega, rfl, by go_num, by rw [ST.out]; exact O.out, B.out⟩
          · go_wp2_with fail
            go_roundg (41 - (k + 1))
            case measure => omega
            case rel => exact ⟨k + 1, by omega, by omega, rfl, by go_num, by rw [ST.out]; exact O.out, B.out⟩
          · go_wp2_with fail
            go_roundg (41 - (k + 1))
            case measure => omega
            case rel => exact ⟨k + 1, by omega, by omega, rfl, by go_num, by rw [ST.out]; exact O.out, B.out⟩
      · have i2 : ¬ (k : Int) < 40 := by omega
        have LT := Lib.hid (letsF_let s k)
        have hTn := letsF_len s k
        have hT40 : (letsF s k).length ≤ 40 := by omega
        clear O HG hacc hTn
        generalize letsF s k = T at LT hT40 RT ⊢
        have pc := readC T (by omega) wr
        rw [words_parse LT.out hT40] at pc
        have hcv : (convert 40 9 (.slice ta T.length tc)).run Tryd.prog wr = .ok (.string ⟨T.toArray⟩) wr := conv_bytes RT.out
        obtain ⟨ts, hts⟩ : ∃ ts : ByteArray, ts = ⟨T.toArray⟩ := ⟨_, rfl⟩
        have htz : ts.size ≤ 40 := by rw [hts, str_size]; exact hT40
        change Calls Tryd.prog 8 #[.string ⟨T.toArray⟩] wr _ at pc
        rw [← hts] at hcv pc
        have PC := Lib.hid pc
        have TS := Lib.hid hts
        clear pc hts
        go_wp2_with fail
        refine PC.out.mono ?_
        rintro e w1 ⟨l1, c1, ls1, rfl, m1, n1, -, b1⟩
        have RT1 := Lib.hid (RT.out.kept b1)
        have hcv1 : (convert 40 9 (.slice ta T.length tc)).run Tryd.prog w1 = .ok (.string ts) w1 := by rw [TS.out]; exact conv_bytes RT1.out
        have pc2 := readC ([40, 63, 58, 40, 63, 58] ++ T ++ [41, 41]) (by simp; omega) w1
        rw [words_parse2 LT.out hT40] at pc2
        have hst : str ([40, 63, 58, 40, 63, 58] ++ T ++ [41, 41]) = .string (⟨#[40, 63, 58, 40, 63, 58]⟩ ++ ts ++ ⟨#[41, 41]⟩) := by
          rw [TS.out]
          refine congrArg Value.string ?_
          apply ByteArray.ext
          simp
        rw [hst] at pc2
        clear hst
        have PC2 := Lib.hid pc2
        have M1 := Lib.hid m1
        have N1 := Lib.hid n1
        have B1 := Lib.hid (B.out.trans (b1.mono B.out.size))
        clear pc2 m1 n1 b1 hcv PC B RT
        go_wp2_with fail
        refine PC2.out.mono ?_
        rintro e w2 ⟨l2, c2, ls2, rfl, m2, n2, -, b2⟩
        have NC := Lib.hid (nodesT l1 l2 c1 c2 ls1 ls2 w2 (N1.out.kept b2) n2 (by rw [M1.out, m2]))
        have RT2 := Lib.hid (RT1.out.kept b2)
        have N2 := Lib.hid (N1.out.kept b2)
        have B2 := Lib.hid (B1.out.trans (b2.mono B1.out.size))
        clear m2 n2 b2 hcv1 PC2 B1 RT1 N1
        go_wp2_with fail
        refine NC.out.mono ?_
        rintro e w3 ⟨rfl, b3⟩
        have RT3 := Lib.hid (RT2.out.kept b3)
        have N3 := Lib.hid (N2.out.kept b3)
        have B3 := Lib.hid (B2.out.trans (b3.mono B2.out.size))
        have RC := Lib.hid (fun (w' : World) (b : Below w.heap.size w w') => runsC w' (HT.out.kept b))
        clear b3 NC B2 RT2 N2 TS
        have h1len := congrArg List.length M1.out
        rw [List.length_map] at h1len
        by_cases h0 : T.length = 0
        · obtain rfl : T = [] := List.eq_nil_of_length_eq_zero h0
          have hm : ls1.map NdV.x = [nd 1] := M1.out
          have hl1 : ls1.length = 1 := h1len
          obtain ⟨y, hy⟩ : ∃ y, ls1[0]? = some y := ⟨_, List.getElem?_eq_getElem (by omega)⟩
          have hyx : y.x = nd 1 := by
            have := congrArg (fun l => l[0]?) hm
            simp only [List.getElem?_map, hy, Option.map_some] at this
            simpa using this
          obtain ⟨bb, off, rfl, hbl, hc⟩ := N3.out.rd.cells eN_len hy
          have q0 := hc 0 (.int .i64 y.x.op) (by omega) rfl
          rw [show y.x.op = 1 by rw [hyx]; rfl] at q0
          simp only [Nat.zero_mul, Nat.add_zero] at q0
          have n1 : ((ls1.length : Int) == 1) = true := by rw [hl1]; rfl
          clear hc hy hm M1 h1len hyx
          go_wp2_with fail
          refine (RC.out w3 B3.out).mono ?_
          rintro e w4 ⟨rfl, b4⟩
          have B4 := Lib.hid (B3.out.trans (b4.mono B3.out.size))
          clear b4
          go_wp2_with fail
          go_ret
          exact ⟨rfl, B4.out⟩
        · by_cases h1 : T.length = 1
          · have hT1 : T.length ≤ 1 := by omega
            have hT2 : 1 ≤ T.length := by omega
            obtain ⟨hl1, nodes⟩ := word_node LT.out M1.out 0 (by omega)
            have ND := Lib.hid nodes
            have hl2 : ((ls1.length : Int) != 0 + T.length) = false := by rw [hl1]; simp
            have hl3 : ls1.length ≤ 0 + T.length := by omega
            have hl7 : ((ls1.length : Int) != 1) = false := by rw [hl1]; simp; omega
            have hl4 : 0 + T.length ≤ ls1.length := by omega
            clear M1 h1len nodes hl1 LT
            go_wp2_with fail
            go_loopg [13] T.length (fun gh i wx => ∃ j : Nat, j ≤ T.length ∧ gh = T.length - j ∧ i = .int .i64 j ∧ Below w3.heap.size w3 wx)
            case atStart => exact ⟨0, by omega, rfl, rfl, Below.refl _ _⟩
            case round =>
              obtain ⟨j, hj, rfl, rfl, b⟩ := hrel
              have BJ := Lib.hid b
              clear b
              by_cases hjT : j < T.length
              · obtain ⟨c, hcT⟩ : ∃ c, T[j]? = some c := ⟨_, List.getElem?_eq_getElem hjT⟩
                obtain ⟨y, hy, hyr⟩ := ND.out j c hcT
                obtain ⟨bb, off, rfl, hbl, hc⟩ := (N3.out.kept BJ.out).rd.cells eN_len hy
                have q1 := hc 1 (.slice y.a y.n y.c) (by omega) rfl
                obtain ⟨hyn, hyd, -⟩ := (N3.out.kept BJ.out).each y (List.mem_of_getElem? hy)
                rw [hyr] at hyd hyn
                rw [hyn] at q1
                clear hyr hyn hc hy
                obtain ⟨tb, toff, rfl, ht0⟩ := cell_byte (RT3.out.kept BJ.out) hcT
                clear hcT
                generalize y.a = ya at q1 hyd
                generalize y.c = yc at q1 hyd
                clear y
                rw [show off + ((0 + j) * 7 + 1) = off + j * 7 + 1 by omega] at q1
                replace q1 : wr.cell? ⟨bb, off + j * 7 + 1, none⟩ = some (.slice ya 1 yc) := q1
                have HYD := Lib.hid hyd
                clear hyd
                have j1 : (j : Int) < (T.length : Int) := by omega
                have j2 : (j : Int) < (ls1.length : Int) := by omega
                have j5 : IntKind.i64.wrap (j : Int) = (j : Int) := IntWalk.i64_in _ (by omega)
                have j6 : (0 : Int) ≤ (j : Int) := by omega
                have c32 : IntKind.i32.wrap (c.toNat : Int) = (c.toNat : Int) := IntWalk.i32_in _ (by have := c.toNat_lt; omega)
                have SC := Lib.hid (same ya (some ⟨wr.heap.size, 0, none⟩) [((c.toNat : Int), (c.toNat : Int))] [((c.toNat : Int), (c.toNat : Int))] yc 1 (wr.alloc (.cells #[.int .i32 c.toNat, .int .i32 c.toNat] 23)).drew (rd_drew (Rd.alloc HYD.out _)) (rd_drew (Rd.built _ 1 rfl rfl (by omega))))
                clear HYD
                go_upto_region 24 with fail
                go_region_held3 (fun w' => w'.cell? ⟨bb, off + j * 7 + 1, none⟩ = some (.slice ya 1 yc) ∧ w'.cell? ⟨tb, toff + j, none⟩ = some (.int .u8 c.toNat)) (first | exact ⟨q1, ht0⟩ | go_keep) (first | (go_at_call 16; refine SC.out.mono ?_; rintro e w4 ⟨rfl, b4⟩; have k1 := cell_past q1 b4; have k2 := cell_past ht0 b4; have B4 := Lib.hid (past_below BJ.out b4 BJ.out.size)))
                clear q1 ht0 k1 k2 b4 SC
                go_wp2_with fail
                go_roundg (T.length - (j + 1))
                case measure => omega
                case rel => exact ⟨j + 1, by omega, rfl, by go_num, B4.out⟩
              · obtain rfl : j = T.length := by omega
                go_wp2_with fail
                refine (RC.out _ (B3.out.trans (BJ.out.mono B3.out.size))).mono ?_
                rintro e w4 ⟨rfl, b4⟩
                have B4 := Lib.hid ((B3.out.trans (BJ.out.mono B3.out.size)).trans (b4.mono (B3.out.trans (BJ.out.mono B3.out.size)).size))
                clear b4
                go_wp2_with fail
                go_ret
                exact ⟨rfl, B4.out⟩
          · have hT2 : 2 ≤ T.length := by omega
            obtain ⟨y, hy, hyo, hyk⟩ := word_head M1.out hT2
            obtain ⟨bb, off, rfl, hbl, hc⟩ := N3.out.rd.cells eN_len hy
            have q0 := hc 0 (.int .i64 3) (by omega) (by rw [← hyo]; rfl)
            have q6 := hc 6 (.int .i64 T.length) (by omega) (by rw [← hyk]; rfl)
            simp only [Nat.zero_mul, Nat.add_zero, Nat.zero_add] at q0 q6
            clear hc hyo hyk hy y
            obtain ⟨hl1, nodes⟩ := word_node LT.out M1.out 1 (by omega)
            have ND := Lib.hid nodes
            have hl2 : ((ls1.length : Int) != 1 + T.length) = false := by rw [hl1]; simp
            have hl3 : ls1.length ≤ 1 + T.length := by omega
            have hl7 : decide ((1 : Int) < (T.length : Int)) = true := by simp; omega
            have hl8 : ((T.length : Int) == 0) = false := by simp; rintro rfl; simp at hT2
            have hl4 : 1 + T.length ≤ ls1.length := by omega
            have hl5 : ((ls1.length : Int) == 0) = false := by simp; intro e; rw [e] at hl4; simp at hl4
            have hl6 : ¬ ls1 = [] := by rintro rfl; simp at hl4
            clear M1 h1len nodes hl1 LT
            go_wp2_with fail
            go_loopg [13] T.length (fun gh i wx => ∃ j : Nat, j ≤ T.length ∧ gh = T.length - j ∧ i = .int .i64 j ∧ Below w3.heap.size w3 wx)
            case atStart => exact ⟨0, by omega, rfl, rfl, Below.refl _ _⟩
            case round =>
              obtain ⟨j, hj, rfl, rfl, b⟩ := hrel
              have BJ := Lib.hid b
              clear b
              by_cases hjT : j < T.length
              · obtain ⟨c, hcT⟩ : ∃ c, T[j]? = some c := ⟨_, List.getElem?_eq_getElem hjT⟩
                obtain ⟨y, hy, hyr⟩ := ND.out j c hcT
                obtain ⟨b2, o2, e2, hbl, hc⟩ := (N3.out.kept BJ.out).rd.cells eN_len hy
                obtain ⟨rfl, rfl⟩ : bb = b2 ∧ off = o2 := by simpa using e2
                clear e2
                have q1 := hc 1 (.slice y.a y.n y.c) (by omega) rfl
                obtain ⟨hyn, hyd, -⟩ := (N3.out.kept BJ.out).each y (List.mem_of_getElem? hy)
                rw [hyr] at hyd hyn
                rw [hyn] at q1
                clear hyr hyn hc hy
                obtain ⟨tb, toff, rfl, ht0⟩ := cell_byte (RT3.out.kept BJ.out) hcT
                clear hcT
                generalize y.a = ya at q1 hyd
                generalize y.c = yc at q1 hyd
                clear y
                rw [show off + ((1 + j) * 7 + 1) = off + (1 + j) * 7 + 1 by omega] at q1
                replace q1 : wr.cell? ⟨bb, off + (1 + j) * 7 + 1, none⟩ = some (.slice ya 1 yc) := q1
                have HYD := Lib.hid hyd
                clear hyd
                have j1 : (j : Int) < (T.length : Int) := by omega
                have j2 : (1 : Int) + (j : Int) < (ls1.length : Int) := by omega
                have j3 : (0 : Int) ≤ 1 + (j : Int) := by omega
                have j4 : ((1 : Int) + (j : Int)).toNat = 1 + j := by omega
                have j5 : IntKind.i64.wrap ((1 : Int) + (j : Int)) = 1 + (j : Int) := IntWalk.i64_in _ (by omega)
                have j6 : (0 : Int) ≤ (j : Int) := by omega
                have c32 : IntKind.i32.wrap (c.toNat : Int) = (c.toNat : Int) := IntWalk.i32_in _ (by have := c.toNat_lt; omega)
                have SC := Lib.hid (same ya (some ⟨wr.heap.size, 0, none⟩) [((c.toNat : Int), (c.toNat : Int))] [((c.toNat : Int), (c.toNat : Int))] yc 1 (wr.alloc (.cells #[.int .i32 c.toNat, .int .i32 c.toNat] 23)).drew (rd_drew (Rd.alloc HYD.out _)) (rd_drew (Rd.built _ 1 rfl rfl (by omega))))
                clear HYD
                go_upto_region 24 with fail
                go_region_held3 (fun w' => w'.cell? ⟨bb, off + (1 + j) * 7 + 1, none⟩ = some (.slice ya 1 yc) ∧ w'.cell? ⟨tb, toff + j, none⟩ = some (.int .u8 c.toNat)) (first | exact ⟨q1, ht0⟩ | go_keep) (first | (go_at_call 16; refine SC.out.mono ?_; rintro e w4 ⟨rfl, b4⟩; have k1 := cell_past q1 b4; have k2 := cell_past ht0 b4; have B4 := Lib.hid (past_below BJ.out b4 BJ.out.size)))
                clear q1 ht0 k1 k2 b4 SC
                go_wp2_with fail
                go_roundg (T.length - (j + 1))
                case measure => omega
                case rel => exact ⟨j + 1, by omega, rfl, by go_num, B4.out⟩
              · obtain rfl : j = T.length := by omega
                go_wp2_with fail
                refine (RC.out _ (B3.out.trans (BJ.out.mono B3.out.size))).mono ?_
                rintro e w4 ⟨rfl, b4⟩
                have B4 := Lib.hid ((B3.out.trans (BJ.out.mono B3.out.size)).trans (b4.mono (B3.out.trans (BJ.out.mono B3.out.size)).size))
                clear b4
                go_wp2_with fail
                go_ret
                exact ⟨rfl, B4.out⟩
    · have i1 : ¬ (k : Int) < (bs.size : Int) := by omega
      have LT := Lib.hid (letsF_let s k)
      have hTn := letsF_len s k
      have hT40 : (letsF s k).length ≤ 40 := by omega
      clear O HG hacc hTn
      generalize letsF s k = T at LT hT40 RT ⊢
      have pc := readC T (by omega) wr
      rw [words_parse LT.out hT40] at pc
      have hcv : (convert 40 9 (.slice ta T.length tc)).run Tryd.prog wr = .ok (.string ⟨T.toArray⟩) wr := conv_bytes RT.out
      obtain ⟨ts, hts⟩ : ∃ ts : ByteArray, ts = ⟨T.toArray⟩ := ⟨_, rfl⟩
      have htz : ts.size ≤ 40 := by rw [hts, str_size]; exact hT40
      change Calls Tryd.prog 8 #[.string ⟨T.toArray⟩] wr _ at pc
      rw [← hts] at hcv pc
      have PC := Lib.hid pc
      have TS := Lib.hid hts
      clear pc hts
      go_wp2_with fail
      refine PC.out.mono ?_
      rintro e w1 ⟨l1, c1, ls1, rfl, m1, n1, -, b1⟩
      have RT1 := Lib.hid (RT.out.kept b1)
      have hcv1 : (convert 40 9 (.slice ta T.length tc)).run Tryd.prog w1 = .ok (.string ts) w1 := by rw [TS.out]; exact conv_bytes RT1.out
      have pc2 := readC ([40, 63, 58, 40, 63, 58] ++ T ++ [41, 41]) (by simp; omega) w1
      rw [words_parse2 LT.out hT40] at pc2
      have hst : str ([40, 63, 58, 40, 63, 58] ++ T ++ [41, 41]) = .string (⟨#[40, 63, 58, 40, 63, 58]⟩ ++ ts ++ ⟨#[41, 41]⟩) := by
        rw [TS.out]
        refine congrArg Value.string ?_
        apply ByteArray.ext
        simp
      rw [hst] at pc2
      clear hst
      have PC2 := Lib.hid pc2
      have M1 := Lib.hid m1
      have N1 := Lib.hid n1
      have B1 := Lib.hid (B.out.trans (b1.mono B.out.size))
      clear pc2 m1 n1 b1 hcv PC B RT
      go_wp2_with fail
      refine PC2.out.mono ?_
      rintro e w2 ⟨l2, c2, ls2, rfl, m2, n2, -, b2⟩
      have NC := Lib.hid (nodesT l1 l2 c1 c2 ls1 ls2 w2 (N1.out.kept b2) n2 (by rw [M1.out, m2]))
      have RT2 := Lib.hid (RT1.out.kept b2)
      have N2 := Lib.hid (N1.out.kept b2)
      have B2 := Lib.hid (B1.out.trans (b2.mono B1.out.size))
      clear m2 n2 b2 hcv1 PC2 B1 RT1 N1
      go_wp2_with fail
      refine NC.out.mono ?_
      rintro e w3 ⟨rfl, b3⟩
      have RT3 := Lib.hid (RT2.out.kept b3)
      have N3 := Lib.hid (N2.out.kept b3)
      have B3 := Lib.hid (B2.out.trans (b3.mono B2.out.size))
      have RC := Lib.hid (fun (w' : World) (b : Below w.heap.size w w') => runsC w' (HT.out.kept b))
      clear b3 NC B2 RT2 N2 TS
      have h1len := congrArg List.length M1.out
      rw [List.length_map] at h1len
      by_cases h0 : T.length = 0
      · obtain rfl : T = [] := List.eq_nil_of_length_eq_zero h0
        have hm : ls1.map NdV.x = [nd 1] := M1.out
        have hl1 : ls1.length = 1 := h1len
        obtain ⟨y, hy⟩ : ∃ y, ls1[0]? = some y := ⟨_, List.getElem?_eq_getElem (by omega)⟩
        have hyx : y.x = nd 1 := by
          have := congrArg (fun l => l[0]?) hm
          simp only [List.getElem?_map, hy, Option.map_some] at this
          simpa using this
        obtain ⟨bb, off, rfl, hbl, hc⟩ := N3.out.rd.cells eN_len hy
        have q0 := hc 0 (.int .i64 y.x.op) (by omega) rfl
        rw [show y.x.op = 1 by rw [hyx]; rfl] at q0
        simp only [Nat.zero_mul, Nat.add_zero] at q0
        have n1 : ((ls1.length : Int) == 1) = true := by rw [hl1]; rfl
        clear hc hy hm M1 h1len hyx
        go_wp2_with fail
        refine (RC.out w3 B3.out).mono ?_
        rintro e w4 ⟨rfl, b4⟩
        have B4 := Lib.hid (B3.out.trans (b4.mono B3.out.size))
        clear b4
        go_wp2_with fail
        go_ret
        exact ⟨rfl, B4.out⟩
      · by_cases h1 : T.length = 1
        · have hT1 : T.length ≤ 1 := by omega
          have hT2 : 1 ≤ T.length := by omega
          obtain ⟨hl1, nodes⟩ := word_node LT.out M1.out 0 (by omega)
          have ND := Lib.hid nodes
          have hl2 : ((ls1.length : Int) != 0 + T.length) = false := by rw [hl1]; simp
          have hl3 : ls1.length ≤ 0 + T.length := by omega
          have hl7 : ((ls1.length : Int) != 1) = false := by rw [hl1]; simp; omega
          have hl4 : 0 + T.length ≤ ls1.length := by omega
          clear M1 h1len nodes hl1 LT
          go_wp2_with fail
          go_loopg [13] T.length (fun gh i wx => ∃ j : Nat, j ≤ T.length ∧ gh = T.length - j ∧ i = .int .i64 j ∧ Below w3.heap.size w3 wx)
          case atStart => exact ⟨0, by omega, rfl, rfl, Below.refl _ _⟩
          case round =>
            obtain ⟨j, hj, rfl, rfl, b⟩ := hrel
            have BJ := Lib.hid b
            clear b
            by_cases hjT : j < T.length
            · obtain ⟨c, hcT⟩ : ∃ c, T[j]? = some c := ⟨_, List.getElem?_eq_getElem hjT⟩
              obtain ⟨y, hy, hyr⟩ := ND.out j c hcT
              obtain ⟨bb, off, rfl, hbl, hc⟩ := (N3.out.kept BJ.out).rd.cells eN_len hy
              have q1 := hc 1 (.slice y.a y.n y.c) (by omega) rfl
              obtain ⟨hyn, hyd, -⟩ := (N3.out.kept BJ.out).each y (List.mem_of_getElem? hy)
              rw [hyr] at hyd hyn
              rw [hyn] at q1
              clear hyr hyn hc hy
              obtain ⟨tb, toff, rfl, ht0⟩ := cell_byte (RT3.out.kept BJ.out) hcT
              clear hcT
              generalize y.a = ya at q1 hyd
              generalize y.c = yc at q1 hyd
              clear y
              rw [show off + ((0 + j) * 7 + 1) = off + j * 7 + 1 by omega] at q1
              replace q1 : wr.cell? ⟨bb, off + j * 7 + 1, none⟩ = some (.slice ya 1 yc) := q1
              have HYD := Lib.hid hyd
              clear hyd
              have j1 : (j : Int) < (T.length : Int) := by omega
              have j2 : (j : Int) < (ls1.length : Int) := by omega
              have j5 : IntKind.i64.wrap (j : Int) = (j : Int) := IntWalk.i64_in _ (by omega)
              have j6 : (0 : Int) ≤ (j : Int) := by omega
              have c32 : IntKind.i32.wrap (c.toNat : Int) = (c.toNat : Int) := IntWalk.i32_in _ (by have := c.toNat_lt; omega)
              have SC := Lib.hid (same ya (some ⟨wr.heap.size, 0, none⟩) [((c.toNat : Int), (c.toNat : Int))] [((c.toNat : Int), (c.toNat : Int))] yc 1 (wr.alloc (.cells #[.int .i32 c.toNat, .int .i32 c.toNat] 23)).drew (rd_drew (Rd.alloc HYD.out _)) (rd_drew (Rd.built _ 1 rfl rfl (by omega))))
              clear HYD
              go_upto_region 24 with fail
              go_region_held3 (fun w' => w'.cell? ⟨bb, off + j * 7 + 1, none⟩ = some (.slice ya 1 yc) ∧ w'.cell? ⟨tb, toff + j, none⟩ = some (.int .u8 c.toNat)) (first | exact ⟨q1, ht0⟩ | go_keep) (first | (go_at_call 16; refine SC.out.mono ?_; rintro e w4 ⟨rfl, b4⟩; have k1 := cell_past q1 b4; have k2 := cell_past ht0 b4; have B4 := Lib.hid (past_below BJ.out b4 BJ.out.size)))
              clear q1 ht0 k1 k2 b4 SC
              go_wp2_with fail
              go_roundg (T.length - (j + 1))
              case measure => omega
              case rel => exact ⟨j + 1, by omega, rfl, by go_num, B4.out⟩
            · obtain rfl : j = T.length := by omega
              go_wp2_with fail
              refine (RC.out _ (B3.out.trans (BJ.out.mono B3.out.size))).mono ?_
              rintro e w4 ⟨rfl, b4⟩
              have B4 := Lib.hid ((B3.out.trans (BJ.out.mono B3.out.size)).trans (b4.mono (B3.out.trans (BJ.out.mono B3.out.size)).size))
              clear b4
              go_wp2_with fail
              go_ret
              exact ⟨rfl, B4.out⟩
        · have hT2 : 2 ≤ T.length := by omega
          obtain ⟨y, hy, hyo, hyk⟩ := word_head M1.out hT2
          obtain ⟨bb, off, rfl, hbl, hc⟩ := N3.out.rd.cells eN_len hy
          have q0 := hc 0 (.int .i64 3) (by omega) (by rw [← hyo]; rfl)
          have q6 := hc 6 (.int .i64 T.length) (by omega) (by rw [← hyk]; rfl)
          simp only [Nat.zero_mul, Nat.add_zero, Nat.zero_add] at q0 q6
          clear hc hyo hyk hy y
          obtain ⟨hl1, nodes⟩ := word_node LT.out M1.out 1 (by omega)
          have ND := Lib.hid nodes
          have hl2 : ((ls1.length : Int) != 1 + T.length) = false := by rw [hl1]; simp
          have hl3 : ls1.length ≤ 1 + T.length := by omega
          have hl7 : decide ((1 : Int) < (T.length : Int)) = true := by simp; omega
          have hl8 : ((T.length : Int) == 0) = false := by simp; rintro rfl; simp at hT2
          have hl4 : 1 + T.length ≤ ls1.length := by omega
          have hl5 : ((ls1.length : Int) == 0) = false := by simp; intro e; rw [e] at hl4; simp at hl4
          have hl6 : ¬ ls1 = [] := by rintro rfl; simp at hl4
          clear M1 h1len nodes hl1 LT
          go_wp2_with fail
          go_loopg [13] T.length (fun gh i wx => ∃ j : Nat, j ≤ T.length ∧ gh = T.length - j ∧ i = .int .i64 j ∧ Below w3.heap.size w3 wx)
          case atStart => exact ⟨0, by omega, rfl, rfl, Below.refl _ _⟩
          case round =>
            obtain ⟨j, hj, rfl, rfl, b⟩ := hrel
            have BJ := Lib.hid b
            clear b
            by_cases hjT : j < T.length
            · obtain ⟨c, hcT⟩ : ∃ c, T[j]? = some c := ⟨_, List.getElem?_eq_getElem hjT⟩
              obtain ⟨y, hy, hyr⟩ := ND.out j c hcT
              obtain ⟨b2, o2, e2, hbl, hc⟩ := (N3.out.kept BJ.out).rd.cells eN_len hy
              obtain ⟨rfl, rfl⟩ : bb = b2 ∧ off = o2 := by simpa using e2
              clear e2
              have q1 := hc 1 (.slice y.a y.n y.c) (by omega) rfl
              obtain ⟨hyn, hyd, -⟩ := (N3.out.kept BJ.out).each y (List.mem_of_getElem? hy)
              rw [hyr] at hyd hyn
              rw [hyn] at q1
              clear hyr hyn hc hy
              obtain ⟨tb, toff, rfl, ht0⟩ := cell_byte (RT3.out.kept BJ.out) hcT
              clear hcT
              generalize y.a = ya at q1 hyd
              generalize y.c = yc at q1 hyd
              clear y
              rw [show off + ((1 + j) * 7 + 1) = off + (1 + j) * 7 + 1 by omega] at q1
              replace q1 : wr.cell? ⟨bb, off + (1 + j) * 7 + 1, none⟩ = some (.slice ya 1 yc) := q1
              have HYD := Lib.hid hyd
              clear hyd
              have j1 : (j : Int) < (T.length : Int) := by omega
              have j2 : (1 : Int) + (j : Int) < (ls1.length : Int) := by omega
              have j3 : (0 : Int) ≤ 1 + (j : Int) := by omega
              have j4 : ((1 : Int) + (j : Int)).toNat = 1 + j := by omega
              have j5 : IntKind.i64.wrap ((1 : Int) + (j : Int)) = 1 + (j : Int) := IntWalk.i64_in _ (by omega)
              have j6 : (0 : Int) ≤ (j : Int) := by omega
              have c32 : IntKind.i32.wrap (c.toNat : Int) = (c.toNat : Int) := IntWalk.i32_in _ (by have := c.toNat_lt; omega)
              have SC := Lib.hid (same ya (some ⟨wr.heap.size, 0, none⟩) [((c.toNat : Int), (c.toNat : Int))] [((c.toNat : Int), (c.toNat : Int))] yc 1 (wr.alloc (.cells #[.int .i32 c.toNat, .int .i32 c.toNat] 23)).drew (rd_drew (Rd.alloc HYD.out _)) (rd_drew (Rd.built _ 1 rfl rfl (by omega))))
              clear HYD
              go_upto_region 24 with fail
              go_region_held3 (fun w' => w'.cell? ⟨bb, off + (1 + j) * 7 + 1, none⟩ = some (.slice ya 1 yc) ∧ w'.cell? ⟨tb, toff + j, none⟩ = some (.int .u8 c.toNat)) (first | exact ⟨q1, ht0⟩ | go_keep) (first | (go_at_call 16; refine SC.out.mono ?_; rintro e w4 ⟨rfl, b4⟩; have k1 := cell_past q1 b4; have k2 := cell_past ht0 b4; have B4 := Lib.hid (past_below BJ.out b4 BJ.out.size)))
              clear q1 ht0 k1 k2 b4 SC
              go_wp2_with fail
              go_roundg (T.length - (j + 1))
              case measure => omega
              case rel => exact ⟨j + 1, by omega, rfl, by go_num, B4.out⟩
            · obtain rfl : j = T.length := by omega
              go_wp2_with fail
              refine (RC.out _ (B3.out.trans (BJ.out.mono B3.out.size))).mono ?_
              rintro e w4 ⟨rfl, b4⟩
              have B4 := Lib.hid ((B3.out.trans (BJ.out.mono B3.out.size)).trans (b4.mono (B3.out.trans (BJ.out.mono B3.out.size)).size))
              clear b4
              go_wp2_with fail
              go_ret
              exact ⟨rfl, B4.out⟩
end Go.Proofs.YtooockbfagkknaaDoor.syn
