/- What each call of mail makes of several boxes. -/
import Derived.Test.YtaohnngadjhmjaaBoxes
namespace Go.Proofs.Ytaohnngadjhmjaa.mail
open Go.Conc Go.RowKit
variable {B : Nat} {w : World} {L : List BoxS}

theorem New_int (n : Nat) (w : World) (h1 : 1 ≤ n) (h2 : n ≤ 4096) (H : Boxes B w L) (hB : B ≤ w.heap.size) :
    Calls Try.prog 7 #[.int .i64 n] w fun e w' => ∃ y : BoxS, y.cap = n ∧ y.q = [] ∧ y.cl = false ∧ e = .returned (.tuple #[.pointer (some ⟨y.b, 0, none⟩), .int .i64 0]) ∧ Boxes B w' (L ++ [y]) ∧ Below w.heap.size w w' := by
  refine (new_ok_int n w h1 h2).mono ?_
  rintro e w' ⟨rfl, rfl⟩
  have hb := ((Below.refl w.heap.size w).alloc (Nat.le_refl _) (.chan n #[] false 0 0 false)).alloc (by simp) (.cells #[.chan (some w.heap.size), .bool false] 62)
  refine ⟨⟨62, w.heap.size + 1, w.heap.size, n, [], false⟩, rfl, rfl, rfl, rfl, H.snoc hB (by simp) (by simp) (by simp) ⟨?_, 0, 0, ?_⟩ fun k hk => hb.block k hk, hb⟩
  · have h := heap_alloc_new (w.alloc (.chan n #[] false 0 0 false)) (.cells #[.chan (some w.heap.size), .bool false] 62)
    simpa [made] using h
  · show ((w.alloc (.chan n #[] false 0 0 false)).alloc (.cells #[.chan (some w.heap.size), .bool false] 62)).heap[w.heap.size]? = _
    rw [Below.heap_alloc _ _ _ (by simp)]
    exact heap_alloc_new _ _
theorem Send_can_int {i : Nat} {x : BoxS} (hi : L[i]? = some x) (H : Boxes B w L) (hB : B ≤ w.heap.size) (hcl : x.cl = false) (hq : x.q.length < x.cap) (x' : Int) :
    Calls Try.prog 8 #[.pointer (some ⟨x.b, 0, none⟩), .int .i64 x'] w fun e w' => e = .returned (.bool true) ∧ Boxes B w' (L.set i { x with q := x.q ++ [.int .i64 x'] }) ∧ Below B w w' := by
  have a := H.at_ i x hi
  have c1 := a.cell1
  obtain ⟨s, r, hc⟩ := a.2
  rw [hcl] at c1 hc
  refine (send_room_int x.b x.c x.cap s r x.q.toArray x' w a.cell0 c1 hc (by simpa using hq)).mono ?_
  rintro e w' ⟨rfl, rfl⟩
  have h := H.queue hi (x.q ++ [.int .i64 x']) (s + 1) r hcl
  exact ⟨rfl, by rw [List.push_toArray]; exact h.1, by rw [List.push_toArray]; exact h.2⟩
theorem Send_cannot_int {i : Nat} {x : BoxS} (hi : L[i]? = some x) (H : Boxes B w L) (hB : B ≤ w.heap.size) (hn : x.cl = true ∨ x.cap ≤ x.q.length) (x' : Int) :
    Calls Try.prog 8 #[.pointer (some ⟨x.b, 0, none⟩), .int .i64 x'] w fun e w' => e = .returned (.bool false) ∧ Boxes B w' L ∧ Below B w w' := by
  have a := H.at_ i x hi
  have c1 := a.cell1
  obtain ⟨s, r, hc⟩ := a.2
  rcases hcl : x.cl with _ | _
  · rw [hcl] at c1 hc hn
    refine (send_full_int x.b x.c x.cap s r x.q.toArray x' w a.cell0 c1 hc (by simpa using hn)).mono ?_
    rintro e w' ⟨rfl, rfl⟩
    exact ⟨rfl, H, Below.refl _ _⟩
  · rw [hcl] at c1
    refine (send_shut_int x.b x' w c1).mono ?_
    rintro e w' ⟨rfl, rfl⟩
    exact ⟨rfl, H, Below.refl _ _⟩

theorem Recv_some_int {i : Nat} {x : BoxS} (hi : L[i]? = some x) (H : Boxes B w L) (hB : B ≤ w.heap.size) (x' : Int) {q : List Value} (hq : x.q = .int .i64 x' :: q) :
    Calls Try.prog 9 #[.pointer (some ⟨x.b, 0, none⟩)] w fun e w' => e = .returned (.tuple #[.int .i64 x', .bool true]) ∧ Boxes B w' (L.set i { x with q }) ∧ Below B w w' := by
  have a := H.at_ i x hi
  obtain ⟨s, r, hc⟩ := a.2
  have hx : (x.q.toArray.extract 1 x.q.toArray.size) = q.toArray := by rw [hq]; simp
  refine (recv_buf_int x.b x.c x.cap s r x.q.toArray x.cl (.int .i64 x') w a.cell0 hc (by rw [hq]; rfl) (by rw [hq]; simp)).mono ?_
  rintro e w' ⟨rfl, rfl⟩
  have h := H.queue hi q s (r + 1) rfl
  rw [hx]
  exact ⟨rfl, h.1, h.2⟩
theorem Recv_none_int {i : Nat} {x : BoxS} (hi : L[i]? = some x) (H : Boxes B w L) (hq : x.q = []) :
    Calls Try.prog 9 #[.pointer (some ⟨x.b, 0, none⟩)] w fun e w' => e = .returned (.tuple #[.int .i64 0, .bool false]) ∧ w' = w := by
  have a := H.at_ i x hi
  obtain ⟨s, r, hc⟩ := a.2
  rw [hq] at hc
  rcases hcl : x.cl with _ | _
  · rw [hcl] at hc
    refine (recv_open_int x.b x.c x.cap s r w a.cell0 hc).mono ?_
    rintro e w' ⟨rfl, rfl⟩
    exact ⟨rfl, rfl⟩
  · rw [hcl] at hc
    refine (recv_shut_int x.b x.c x.cap s r w a.cell0 hc).mono ?_
    rintro e w' ⟨rfl, rfl⟩
    exact ⟨rfl, rfl⟩

theorem Len_int {i : Nat} {x : BoxS} (hi : L[i]? = some x) (H : Boxes B w L) :
    Calls Try.prog 21 #[.pointer (some ⟨x.b, 0, none⟩)] w fun e w' => e = .returned (.int .i64 x.q.length) ∧ w' = w := by
  have a := H.at_ i x hi
  obtain ⟨s, r, hc⟩ := a.2
  simpa using len_int x.b x.c x.cap s r x.q.toArray x.cl w a.cell0 hc

theorem Closed_int {i : Nat} {x : BoxS} (hi : L[i]? = some x) (H : Boxes B w L) :
    Calls Try.prog 11 #[.pointer (some ⟨x.b, 0, none⟩)] w fun e w' => e = .returned (.bool x.cl) ∧ w' = w := closed_int x.b x.cl w (H.at_ i x hi).cell1
theorem Close_int {i : Nat} {x : BoxS} (hi : L[i]? = some x) (H : Boxes B w L) :
    Calls Try.prog 10 #[.pointer (some ⟨x.b, 0, none⟩)] w fun e w' => e = .returned (.tuple #[]) ∧ Boxes B w' (L.set i { x with cl := true }) ∧ Below B w w' := by
  have a := H.at_ i x hi
  have c1 := a.cell1
  have hl := H.lo i x hi
  have hs := H.self i x hi
  obtain ⟨s, r, hc⟩ := a.2
  rcases hcl : x.cl with _ | _
  · rw [hcl] at hc c1
    refine (close_open_int x.b x.c x.cap s r x.q.toArray w hs a.free1 a.cell0 c1 hc).mono ?_
    rintro e w' ⟨rfl, rfl⟩
    have h1 := (Below.refl B w).setCell (p := ⟨x.b, 1, none⟩) hl.1 (.bool true)
    have hsz : (w.setCell ⟨x.b, 1, none⟩ (.bool true)).heap.size = w.heap.size := by simp [World.setCell]
    refine ⟨rfl, H.set hi rfl rfl ⟨?_, s, r, heap_setChan _ _ _ _ _ _ _ _ (by rw [hsz]; exact a.lt.2)⟩ (fun k _ h h' => ?_), h1.trans (Below.setChan' hl.2 _ _ _ _ _)⟩
    · rw [setChan_other _ _ _ _ _ _ _ _ hs]
      show (w.heap.modify x.b _)[x.b]? = _
      rw [Array.getElem?_modify, if_pos rfl, a.1]
      simp
    · rw [setChan_other _ _ _ _ _ _ _ _ h', Below.heap_setCell _ _ _ _ h]
  · rw [hcl] at c1
    refine (close_again_int x.b w c1).mono ?_
    rintro e w' ⟨rfl, rfl⟩
    have e : L.set i { x with cl := true } = L := by
      have e : ({ x with cl := true } : BoxS) = x := by cases x; simp_all
      rw [e]
      exact set_same hi
    rw [e]
    exact ⟨rfl, H, Below.refl _ _⟩

theorem New_str (n : Nat) (w : World) (h1 : 1 ≤ n) (h2 : n ≤ 4096) (H : Boxes B w L) (hB : B ≤ w.heap.size) :
    Calls Try.prog 14 #[.int .i64 n] w fun e w' => ∃ y : BoxS, y.cap = n ∧ y.q = [] ∧ y.cl = false ∧ e = .returned (.tuple #[.pointer (some ⟨y.b, 0, none⟩), .int .i64 0]) ∧ Boxes B w' (L ++ [y]) ∧ Below w.heap.size w w' := by
  refine (new_ok_str n w h1 h2).mono ?_
  rintro e w' ⟨rfl, rfl⟩
  have hb := ((Below.refl w.heap.size w).alloc (Nat.le_refl _) (.chan n #[] false 0 0 false)).alloc (by simp) (.cells #[.chan (some w.heap.size), .bool false] 67)
  refine ⟨⟨67, w.heap.size + 1, w.heap.size, n, [], false⟩, rfl, rfl, rfl, rfl, H.snoc hB (by simp) (by simp) (by simp) ⟨?_, 0, 0, ?_⟩ fun k hk => hb.block k hk, hb⟩
  · have h := heap_alloc_new (w.alloc (.chan n #[] false 0 0 false)) (.cells #[.chan (some w.heap.size), .bool false] 67)
    simpa [made] using h
  · show ((w.alloc (.chan n #[] false 0 0 false)).alloc (.cells #[.chan (some w.heap.size), .bool false] 67)).heap[w.heap.size]? = _
    rw [Below.heap_alloc _ _ _ (by simp)]
    exact heap_alloc_new _ _
theorem Send_can_str {i : Nat} {x : BoxS} (hi : L[i]? = some x) (H : Boxes B w L) (hB : B ≤ w.heap.size) (hcl : x.cl = false) (hq : x.q.length < x.cap) (x' : ByteArray) :
    Calls Try.prog 22 #[.pointer (some ⟨x.b, 0, none⟩), .string x'] w fun e w' => e = .returned (.bool true) ∧ Boxes B w' (L.set i { x with q := x.q ++ [.string x'] }) ∧ Below B w w' := by
  have a := H.at_ i x hi
  have c1 := a.cell1
  obtain ⟨s, r, hc⟩ := a.2
  rw [hcl] at c1 hc
  refine (send_room_str x.b x.c x.cap s r x.q.toArray x' w a.cell0 c1 hc (by simpa using hq)).mono ?_
  rintro e w' ⟨rfl, rfl⟩
  have h := H.queue hi (x.q ++ [.string x']) (s + 1) r hcl
  exact ⟨rfl, by rw [List.push_toArray]; exact h.1, by rw [List.push_toArray]; exact h.2⟩
theorem Send_cannot_str {i : Nat} {x : BoxS} (hi : L[i]? = some x) (H : Boxes B w L) (hB : B ≤ w.heap.size) (hn : x.cl = true ∨ x.cap ≤ x.q.length) (x' : ByteArray) :
    Calls Try.prog 22 #[.pointer (some ⟨x.b, 0, none⟩), .string x'] w fun e w' => e = .returned (.bool false) ∧ Boxes B w' L ∧ Below B w w' := by
  have a := H.at_ i x hi
  have c1 := a.cell1
  obtain ⟨s, r, hc⟩ := a.2
  rcases hcl : x.cl with _ | _
  · rw [hcl] at c1 hc hn
    refine (send_full_str x.b x.c x.cap s r x.q.toArray x' w a.cell0 c1 hc (by simpa using hn)).mono ?_
    rintro e w' ⟨rfl, rfl⟩
    exact ⟨rfl, H, Below.refl _ _⟩
  · rw [hcl] at c1
    refine (send_shut_str x.b x' w c1).mono ?_
    rintro e w' ⟨rfl, rfl⟩
    exact ⟨rfl, H, Below.refl _ _⟩

theorem Recv_some_str {i : Nat} {x : BoxS} (hi : L[i]? = some x) (H : Boxes B w L) (hB : B ≤ w.heap.size) (x' : ByteArray) {q : List Value} (hq : x.q = .string x' :: q) :
    Calls Try.prog 24 #[.pointer (some ⟨x.b, 0, none⟩)] w fun e w' => e = .returned (.tuple #[.string x', .bool true]) ∧ Boxes B w' (L.set i { x with q }) ∧ Below B w w' := by
  have a := H.at_ i x hi
  obtain ⟨s, r, hc⟩ := a.2
  have hx : (x.q.toArray.extract 1 x.q.toArray.size) = q.toArray := by rw [hq]; simp
  refine (recv_buf_str x.b x.c x.cap s r x.q.toArray x.cl (.string x') w a.cell0 hc (by rw [hq]; rfl) (by rw [hq]; simp)).mono ?_
  rintro e w' ⟨rfl, rfl⟩
  have h := H.queue hi q s (r + 1) rfl
  rw [hx]
  exact ⟨rfl, h.1, h.2⟩
theorem Recv_none_str {i : Nat} {x : BoxS} (hi : L[i]? = some x) (H : Boxes B w L) (hq : x.q = []) :
    Calls Try.prog 24 #[.pointer (some ⟨x.b, 0, none⟩)] w fun e w' => e = .returned (.tuple #[.string ⟨#[]⟩, .bool false]) ∧ w' = w := by
  have a := H.at_ i x hi
  obtain ⟨s, r, hc⟩ := a.2
  rw [hq] at hc
  rcases hcl : x.cl with _ | _
  · rw [hcl] at hc
    refine (recv_open_str x.b x.c x.cap s r w a.cell0 hc).mono ?_
    rintro e w' ⟨rfl, rfl⟩
    exact ⟨rfl, rfl⟩
  · rw [hcl] at hc
    refine (recv_shut_str x.b x.c x.cap s r w a.cell0 hc).mono ?_
    rintro e w' ⟨rfl, rfl⟩
    exact ⟨rfl, rfl⟩

theorem Len_str {i : Nat} {x : BoxS} (hi : L[i]? = some x) (H : Boxes B w L) :
    Calls Try.prog 23 #[.pointer (some ⟨x.b, 0, none⟩)] w fun e w' => e = .returned (.int .i64 x.q.length) ∧ w' = w := by
  have a := H.at_ i x hi
  obtain ⟨s, r, hc⟩ := a.2
  simpa using len_str x.b x.c x.cap s r x.q.toArray x.cl w a.cell0 hc

theorem New_arr (n : Nat) (w : World) (h1 : 1 ≤ n) (h2 : n ≤ 4096) (H : Boxes B w L) (hB : B ≤ w.heap.size) :
    Calls Try.prog 15 #[.int .i64 n] w fun e w' => ∃ y : BoxS, y.cap = n ∧ y.q = [] ∧ y.cl = false ∧ e = .returned (.tuple #[.pointer (some ⟨y.b, 0, none⟩), .int .i64 0]) ∧ Boxes B w' (L ++ [y]) ∧ Below w.heap.size w w' := by
  refine (new_ok_arr n w h1 h2).mono ?_
  rintro e w' ⟨rfl, rfl⟩
  have hb := ((Below.refl w.heap.size w).alloc (Nat.le_refl _) (.chan n #[] false 0 0 false)).alloc (by simp) (.cells #[.chan (some w.heap.size), .bool false] 70)
  refine ⟨⟨70, w.heap.size + 1, w.heap.size, n, [], false⟩, rfl, rfl, rfl, rfl, H.snoc hB (by simp) (by simp) (by simp) ⟨?_, 0, 0, ?_⟩ fun k hk => hb.block k hk, hb⟩
  · have h := heap_alloc_new (w.alloc (.chan n #[] false 0 0 false)) (.cells #[.chan (some w.heap.size), .bool false] 70)
    simpa [made] using h
  · show ((w.alloc (.chan n #[] false 0 0 false)).alloc (.cells #[.chan (some w.heap.size), .bool false] 70)).heap[w.heap.size]? = _
    rw [Below.heap_alloc _ _ _ (by simp)]
    exact heap_alloc_new _ _
theorem Send_can_arr {i : Nat} {x : BoxS} (hi : L[i]? = some x) (H : Boxes B w L) (hB : B ≤ w.heap.size) (hcl : x.cl = false) (hq : x.q.length < x.cap) (x' y' : Int) :
    Calls Try.prog 18 #[.pointer (some ⟨x.b, 0, none⟩), .agg #[.int .i64 x', .int .i64 y']] w fun e w' => e = .returned (.bool true) ∧ Boxes B w' (L.set i { x with q := x.q ++ [.agg #[.int .i64 x', .int .i64 y']] }) ∧ Below B w w' := by
  have a := H.at_ i x hi
  have c1 := a.cell1
  obtain ⟨s, r, hc⟩ := a.2
  rw [hcl] at c1 hc
  refine (send_room_arr x.b x.c x.cap s r x.q.toArray x' y' w a.lt.1 a.lt.2 a.cell0 c1 hc (by simpa using hq)).mono ?_
  rintro e w' ⟨rfl, hU⟩
  rw [List.push_toArray] at hU
  exact ⟨rfl, H.upd hi _ _ _ hcl hU hB⟩
theorem Send_cannot_arr {i : Nat} {x : BoxS} (hi : L[i]? = some x) (H : Boxes B w L) (hB : B ≤ w.heap.size) (hn : x.cl = true ∨ x.cap ≤ x.q.length) (x' y' : Int) :
    Calls Try.prog 18 #[.pointer (some ⟨x.b, 0, none⟩), .agg #[.int .i64 x', .int .i64 y']] w fun e w' => e = .returned (.bool false) ∧ Boxes B w' L ∧ Below B w w' := by
  have a := H.at_ i x hi
  have c1 := a.cell1
  obtain ⟨s, r, hc⟩ := a.2
  rcases hcl : x.cl with _ | _
  · rw [hcl] at c1 hc hn
    refine (send_full_arr x.b x.c x.cap s r x.q.toArray x' y' w a.lt.1 a.lt.2 a.cell0 c1 hc (by simpa using hn)).mono ?_
    rintro e w' ⟨rfl, hb⟩
    exact ⟨rfl, H.below hb (Nat.le_refl _), hb.mono hB⟩
  · rw [hcl] at c1
    refine (send_shut_arr x.b x' y' w a.lt.1 c1).mono ?_
    rintro e w' ⟨rfl, hb⟩
    exact ⟨rfl, H.below hb (Nat.le_refl _), hb.mono hB⟩

theorem Recv_some_arr {i : Nat} {x : BoxS} (hi : L[i]? = some x) (H : Boxes B w L) (hB : B ≤ w.heap.size) (x' y' : Int) {q : List Value} (hq : x.q = .agg #[.int .i64 x', .int .i64 y'] :: q) :
    Calls Try.prog 20 #[.pointer (some ⟨x.b, 0, none⟩)] w fun e w' => e = .returned (.tuple #[.agg #[.int .i64 x', .int .i64 y'], .bool true]) ∧ Boxes B w' (L.set i { x with q }) ∧ Below B w w' := by
  have a := H.at_ i x hi
  obtain ⟨s, r, hc⟩ := a.2
  have hx : (x.q.toArray.extract 1 x.q.toArray.size) = q.toArray := by rw [hq]; simp
  refine (recv_buf_arr x.b x.c x.cap s r x.q.toArray x.cl x' y' w a.lt.1 a.lt.2 a.cell0 hc (by rw [hq]; rfl) (by rw [hq]; simp)).mono ?_
  rintro e w' ⟨rfl, hU⟩
  rw [hx] at hU
  exact ⟨rfl, H.upd hi _ _ _ rfl hU hB⟩
theorem Recv_none_arr {i : Nat} {x : BoxS} (hi : L[i]? = some x) (H : Boxes B w L) (hB : B ≤ w.heap.size) (hq : x.q = []) :
    Calls Try.prog 20 #[.pointer (some ⟨x.b, 0, none⟩)] w fun e w' => e = .returned (.tuple #[.agg #[.int .i64 0, .int .i64 0], .bool false]) ∧ Boxes B w' L ∧ Below B w w' := by
  have a := H.at_ i x hi
  obtain ⟨s, r, hc⟩ := a.2
  rw [hq] at hc
  rcases hcl : x.cl with _ | _
  · rw [hcl] at hc
    refine (recv_open_arr x.b x.c x.cap s r w a.lt.1 a.lt.2 a.cell0 hc).mono ?_
    rintro e w' ⟨rfl, hb⟩
    exact ⟨rfl, H.below hb (Nat.le_refl _), hb.mono hB⟩
  · rw [hcl] at hc
    refine (recv_shut_arr x.b x.c x.cap s r w a.lt.1 a.lt.2 a.cell0 hc).mono ?_
    rintro e w' ⟨rfl, hb⟩
    exact ⟨rfl, H.below hb (Nat.le_refl _), hb.mono hB⟩

theorem Closed_arr {i : Nat} {x : BoxS} (hi : L[i]? = some x) (H : Boxes B w L) :
    Calls Try.prog 19 #[.pointer (some ⟨x.b, 0, none⟩)] w fun e w' => e = .returned (.bool x.cl) ∧ w' = w := closed_arr x.b x.cl w (H.at_ i x hi).cell1
theorem Close_arr {i : Nat} {x : BoxS} (hi : L[i]? = some x) (H : Boxes B w L) :
    Calls Try.prog 17 #[.pointer (some ⟨x.b, 0, none⟩)] w fun e w' => e = .returned (.tuple #[]) ∧ Boxes B w' (L.set i { x with cl := true }) ∧ Below B w w' := by
  have a := H.at_ i x hi
  have c1 := a.cell1
  have hl := H.lo i x hi
  have hs := H.self i x hi
  obtain ⟨s, r, hc⟩ := a.2
  rcases hcl : x.cl with _ | _
  · rw [hcl] at hc c1
    refine (close_open_arr x.b x.c x.cap s r x.q.toArray w hs a.free1 a.cell0 c1 hc).mono ?_
    rintro e w' ⟨rfl, rfl⟩
    have h1 := (Below.refl B w).setCell (p := ⟨x.b, 1, none⟩) hl.1 (.bool true)
    have hsz : (w.setCell ⟨x.b, 1, none⟩ (.bool true)).heap.size = w.heap.size := by simp [World.setCell]
    refine ⟨rfl, H.set hi rfl rfl ⟨?_, s, r, heap_setChan _ _ _ _ _ _ _ _ (by rw [hsz]; exact a.lt.2)⟩ (fun k _ h h' => ?_), h1.trans (Below.setChan' hl.2 _ _ _ _ _)⟩
    · rw [setChan_other _ _ _ _ _ _ _ _ hs]
      show (w.heap.modify x.b _)[x.b]? = _
      rw [Array.getElem?_modify, if_pos rfl, a.1]
      simp
    · rw [setChan_other _ _ _ _ _ _ _ _ h', Below.heap_setCell _ _ _ _ h]
  · rw [hcl] at c1
    refine (close_again_arr x.b w c1).mono ?_
    rintro e w' ⟨rfl, rfl⟩
    have e : L.set i { x with cl := true } = L := by
      have e : ({ x with cl := true } : BoxS) = x := by cases x; simp_all
      rw [e]
      exact set_same hi
    rw [e]
    exact ⟨rfl, H, Below.refl _ _⟩

end Go.Proofs.Ytaohnngadjhmjaa.mail

