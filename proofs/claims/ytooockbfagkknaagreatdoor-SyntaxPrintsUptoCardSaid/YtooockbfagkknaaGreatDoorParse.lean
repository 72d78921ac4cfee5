/- syntax.Parse, walked. -/
import Derived.Test.YtooockbfagkknaaGreatDoorPar13
import Derived.Test.YtooockbfagkknaaGreatDoorAll
import Derived.Lib.ConvBytes
import Derived.Lib.AtoiErrMem
namespace Go.Proofs.YtooockbfagkknaaGreatDoor.syn
open Go.RowKit Go.Proofs.YtooockbfagkknaaGreatDoor.sl Go.Proofs.YtooockbfagkknaaGreatDoor.cls
theorem rd_bytes (w : World) (l : List UInt8) (h : l.length ≤ 100000) : Rd eB (Lib.bytesWorld w 5 ⟨l.toArray⟩) (some ⟨w.heap.size, 0, none⟩) l (grownCap w (⟨l.toArray⟩ : ByteArray).size 0 5) := by
  have hs := str_size l
  refine ⟨fun e => (nomatch e), by have := grownCap_ge w (⟨l.toArray⟩ : ByteArray).size 0 5; omega, grownCap_le_maxLen _ _ _ _ (by rw [hs]; unfold maxLen; omega), fun ad e _ => ?_⟩
  cases e
  refine ⟨rfl, by rw [Lib.bytesWorld_size]; exact Nat.lt_succ_self _, fun j u hj => ?_⟩
  rw [flat_eB] at hj
  have hjl : j < l.length := by
    have := lt_of_some hj
    rwa [Lib.byteCells_length] at this
  rw [Nat.zero_add, Lib.bytesWorld_cell _ _ _ _ (by rw [hs]; exact hjl)]
  simp only [Lib.byteCells, List.getElem?_map, List.getElem?_eq_getElem hjl, Option.map_some, Option.some.injEq] at hj
  rw [← hj]
  simp [hjl]
theorem allGo_len : ∀ (n : Nat) (l : List UInt8), (allGo n l).length ≤ l.length
  | 0, l => Nat.zero_le _
  | n + 1, l => by
    by_cases hl : l = []
    · subst hl; rw [allGo_nil]; simp
    · have hp : 0 < l.length := List.length_pos_iff.2 hl
      rcases firstF_len l with h0 | ⟨m, hm, h1, h2, _⟩
      · rw [allGo_bad hl h0, List.length_cons]
        have := allGo_len n (l.drop 1)
        rw [List.length_drop] at this
        omega
      · rw [allGo_ok hl hm h1, List.length_cons]
        have := allGo_len n (l.drop m)
        rw [List.length_drop] at this
        omega
theorem allGo_n : ∀ (n : Nat) (l : List UInt8), ∀ g ∈ allGo n l, 1 ≤ g.2 ∧ g.2 ≤ 4
  | 0, l, g, h => by cases h
  | n + 1, l, g, h => by
    by_cases hl : l = []
    · subst hl; rw [allGo_nil] at h; cases h
    · rcases firstF_len l with h0 | ⟨m, hm, h1, h2, h4⟩
      · rw [allGo_bad hl h0] at h
        rcases List.mem_cons.1 h with rfl | h
        · decide
        · exact allGo_n n _ g h
      · rw [allGo_ok hl hm h1] at h
        rcases List.mem_cons.1 h with rfl | h
        · rw [hm]; omega
        · exact allGo_n n _ g h
def parseF (l : List UInt8) : List Nd × Int × Int := if 120 < l.length then ([], 2, 0) else parseG (allF l)
def ParsePost (w : World) (r : List Nd × Int × Int) (e : Ending) (w' : World) : Prop := ∃ v, e = .returned (.tuple #[v, .int .i64 r.2.1, .int .i64 r.2.2]) ∧ Nds w.heap.size w' v r.1 ∧ Below w.heap.size w w'
abbrev OwnI (B : Nat) (w : World) (v : Value) (l : List Int) : Prop := Own eI 1 3 B w v l
theorem eI_one (n : Int) : ∀ u ∈ eI n, u.oneCell' = true := by simp [eI, Value.oneCell']
theorem elem_i : ElemTy Tryz.prog 42 3 1 8 := ElemTy.mk' (z := .int .i64 0) Tryz.underlying42 (by kernel_rfl) rfl (by decide)
theorem places_take (G : List Gt) {k : Nat} (h : k < G.length) : (places G).take (k + 1) = (places G).take k ++ [place G k] := by
  rw [List.take_add_one, places_at G h]
  rfl
theorem place_succ (G : List Gt) {k : Nat} {g : Gt} (h : G[k]? = some g) : place G (k + 1) = place G k + g.2 := by
  unfold place
  rw [List.take_add_one, h]
  simp
theorem place_bound (G : List Gt) (hG : ∀ g ∈ G, 1 ≤ g.2 ∧ g.2 ≤ 4) : ∀ k, k ≤ G.length → 0 ≤ place G k ∧ place G k ≤ 4 * k
  | 0, _ => by simp [place]
  | k + 1, h => by
    obtain ⟨g, hg⟩ : ∃ g, G[k]? = some g := ⟨_, List.getElem?_eq_getElem h⟩
    have := place_bound G hG k (by omega)
    have := hG g (List.mem_of_getElem? hg)
    rw [place_succ G hg]
    omega
def parse2 (G : List Gt) (a : Ps × List Nd) : List Nd × Int × Int :=
  let s := if a.1.err = 0 ∧ a.1.i < G.length then a.1.wrong G a.1.i 4 else a.1
  if s.err ≠ 0 then ([], s.err, s.wh) else (a.2, 0, 0)
theorem parseG_eq (G : List Gt) : parseG G = parse2 G (altF G 21 ps0) := rfl
theorem parse2_rest {G : List Gt} {t : Ps} {ls : List Nd} (he : t.err = 0) (hi : t.i < G.length) : parse2 G (t, ls) = ([], 4, place G t.i) := by simp [parse2, he, hi, Ps.wrong]
theorem parse2_ok {G : List Gt} {t : Ps} {ls : List Nd} (he : t.err = 0) (hi : ¬ t.i < G.length) : parse2 G (t, ls) = (ls, 0, 0) := by simp [parse2, he, hi]
theorem parse2_err {G : List Gt} {t : Ps} {ls : List Nd} (he : t.err ≠ 0) : parse2 G (t, ls) = ([], t.err, t.wh) := by simp [parse2, he]
theorem own_ne {α : Type} {enc : α → List Value} {k : Nat} {E T : TypeId} {B P : Nat} {w : World} {v : Value} {l : List α} {cs : Array Value} (h : Own enc k E B w v l) (hP : w.heap[P]? = some (.cells cs T)) (hne : E ≠ T) : v.ownBlock ≠ some P := by
  intro e
  rcases h.2 with ⟨rfl, _⟩ | ⟨g, _, _, rfl, _, hg, _⟩
  · cases e
  · cases e
    rw [hg] at hP
    simp only [Option.some.injEq, Obj.cells.injEq] at hP
    exact hne hP.2.1
set_option maxHeartbeats 8000000 in
set_option maxRecDepth 100000 in
theorem parseC (l : List UInt8) (hl : l.length ≤ 9223372036854775807) (w : World) : Calls Tryz.prog 5 #[str l] w (ParsePost w (parseF l)) := by
  have hsz := str_size l
  by_cases h120 : 120 < l.length
  · have e1 : parseF l = ([], 2, 0) := by simp [parseF, h120]
    rw [e1]
    obtain ⟨bs, hbs⟩ : ∃ bs : ByteArray, bs = ⟨l.toArray⟩ := ⟨_, rfl⟩
    show Calls Tryz.prog 5 #[.string ⟨l.toArray⟩] w _
    rw [← hbs] at hsz ⊢
    have i1 : (120 : Int) < (bs.size : Int) := by omega
    have i2 : (bs.size : Int) ≤ 9223372036854775807 := by omega
    clear hbs hsz e1 h120 hl
    go_enter Tryz.func5, Tryz.ntmps5
    go_wp2_with fail
    go_ret3
    exact ⟨_, rfl, Nds.nil _ _, Below.refl _ _⟩
  · have e1 : parseF l = parseG (allF l) := by simp [parseF, h120]
    rw [e1]
    have RB := Lib.hid (rd_bytes w l (by omega))
    have hGl : (allF l).length ≤ l.length := allGo_len _ _
    have HGN := Lib.hid (allGo_n l.length l)
    obtain ⟨bs, hbs⟩ : ∃ bs : ByteArray, bs = ⟨l.toArray⟩ := ⟨_, rfl⟩
    show Calls Tryz.prog 5 #[.string ⟨l.toArray⟩] w _
    rw [← hbs] at hsz RB ⊢
    have i1 : ¬ (120 : Int) < (bs.size : Int) := by omega
    have hcv : (convert 9 41 (.string bs)).run Tryz.prog w = .ok (.slice (some ⟨w.heap.size, 0, none⟩) bs.size (grownCap w bs.size 0 5)) (Lib.bytesWorld w 5 bs) := Lib.run_convert_string_bytes w _ _ _ bs Tryz.underlying9 Tryz.underlying41 Tryz.underlying5
    generalize grownCap w bs.size 0 5 = bc at hcv RB
    have BW := Lib.hid (Lib.bytesWorld_below w 5 bs)
    generalize Lib.bytesWorld w 5 bs = wb at hcv RB BW
    have AC := Lib.hid (allC _ l bc wb RB.out (by omega))
    suffices key : ∀ G, allF l = G → Calls Tryz.prog 5 #[.string bs] w (ParsePost w (parseG G)) from key _ rfl
    intro G hG
    have hgn : ∀ g ∈ G, 1 ≤ g.2 ∧ g.2 ≤ 4 := by rw [← hG]; exact HGN.out
    rw [hG] at AC hGl
    have PB := Lib.hid (place_bound G hgn)
    have HGX := Lib.hid hgn
    clear hbs e1 hG hgn HGN RB
    have hG120 : G.length ≤ 120 := by omega
    go_enter Tryz.func5, Tryz.ntmps5
    go_wp2_with fail
    refine AC.out.mono ?_
    rintro e w1 ⟨v, rfl, o1, b1⟩
    have B1 := Lib.hid (BW.out.trans (b1.mono BW.out.size))
    have O1 := Lib.hid (o1.mono BW.out.size)
    clear o1 b1 BW AC hcv
    obtain ⟨ga, gc, rfl, rd1, hga⟩ := O1.out.rd
    have RD1 := Lib.hid rd1
    have HGA := Lib.hid hga
    have hgm := rd1.max
    have hgle := rd1.le
    unfold maxLen at hgm
    clear rd1 hga
    go_wp2_with fail
    have b2 := (Below.refl w1.heap.size w1).alloc (Nat.le_refl _) (.cells #[.slice ga G.length gc, .slice none 0 0, .int .i64 0, .int .i64 0, .int .i64 0, .int .i64 0, .int .i64 0] 44)
    have ob2 := heap_alloc_new w1 (.cells #[.slice ga G.length gc, .slice none 0 0, .int .i64 0, .int .i64 0, .int .i64 0, .int .i64 0, .int .i64 0] 44)
    have B2 := Lib.hid b2
    have OB2 := Lib.hid ob2
    clear b2 ob2
    obtain ⟨P, hP⟩ : ∃ P, w1.heap.size = P := ⟨_, rfl⟩
    have HP := Lib.hid hP
    rw [hP] at B2 OB2 ⊢
    clear hP
    go_loopg [6, 8, 23] G.length (fun g x6 x8 x23 wr => ∃ (k : Nat) (vp : Value), k ≤ G.length ∧ g = G.length - k ∧ x6 = .int .i64 (place G k) ∧ x23 = .int .i64 k ∧ wr.heap[P]? = some (.cells #[.slice ga G.length gc, vp, .int .i64 0, .int .i64 0, .int .i64 0, .int .i64 0, .int .i64 0] 44) ∧ OwnI P wr vp ((places G).take k) ∧ Below P w1 wr)
    case atStart => exact ⟨0, _, Nat.zero_le _, rfl, rfl, rfl, OB2.out, Own.nil _ _ _ _ _, B2.out⟩
    case round =>
      clear OB2 B2
      obtain ⟨k, vp, hk, rfl, rfl, rfl, ob, ow, bl⟩ := hrel
      obtain ⟨pk, hpk⟩ : ∃ pk, (places G).take k = pk := ⟨_, rfl⟩
      rw [hpk] at ow
      have hplen : pk.length = k := by rw [← hpk, List.length_take, places_len]; omega
      have HPK := Lib.hid hpk
      clear hpk
      obtain ⟨ap, cp, rfl, -, -⟩ := ow.rd
      have OB := Lib.hid ob
      have OW := Lib.hid ow
      have BL := Lib.hid bl
      have hPl := heap_lt ob
      have pb := PB.out k hk
      by_cases hlt : k < G.length
      · obtain ⟨⟨gr, gn⟩, hg⟩ : ∃ x, G[k]? = some x := ⟨_, List.getElem?_eq_getElem hlt⟩
        have hps := place_succ G hg
        have gb := HGX.out _ (List.mem_of_getElem? hg)
        simp only at hps gb
        obtain ⟨b, off, hga2, hbl, hc⟩ := (RD1.out.below bl (fun ad e hp => by rw [← HP.out]; exact (RD1.out.at_ ad e hp).2.1)).cells eG_len hg
        subst hga2
        have r0 := hc 0 (.int .i32 gr) (by omega) rfl
        have r1 := hc 1 (.int .i64 gn) (by omega) rfl
        simp only [Nat.add_zero] at r0
        simp only [← Nat.add_assoc] at r1
        have c1 := cell_of_obj (o := 1) (u := .slice ap pk.length cp) ob rfl
        have z1 := frozen_of_obj (o := 1) ob
        have HPS := Lib.hid hps
        have HG := Lib.hid hg
        have HPL := Lib.hid hplen
        generalize hat : place G k = at0 at HPS pb ⊢
        have HAT := Lib.hid hat
        clear hat hc hg hps ob ow bl hplen
        have hpkl : pk.length < 1000000000 := by have := HPL.out; omega
        have hne : ¬ P = wr.heap.size := by omega
        have hne2 : ¬ wr.heap.size = P := by omega
        have OW2 := Lib.hid (OW.out.alloc (.cells #[.int .i32 gr, .int .i64 gn] 46))
        have hPs : P ≤ (wr.alloc (.cells #[.int .i32 gr, .int .i64 gn] 46)).heap.size := by simp; omega
        have ONE := Lib.hid (own_ne OW.out OB.out (by decide))
        have OLT := Lib.hid (OW.out.lt)
        go_wp2_with (at_builtin; go_must (refine wpList_app1 (w := wr.alloc (.cells #[.int .i32 gr, .int .i64 gn] 46)) (v := .slice ap pk.length cp) elem_i rfl rfl rfl rfl (by simp) OW2.out at0 rfl eI_len eI_one hpkl (by omega) hPs ?_; intro v6 w6 o6 g6; have ob6 := (g6.block P (by simp; omega) (fun e => ONE.out e.symm)).trans ((Below.heap_alloc _ _ P (by simp; omega)).trans ((Below.heap_alloc wr _ P hPl).trans OB.out)); have nb6 := (g6.block wr.heap.size (by simp; omega) (fun e => by have := (OLT.out _ e.symm).2; omega)).trans ((Below.heap_alloc _ _ wr.heap.size (by simp)).trans (heap_alloc_new wr (.cells #[.int .i32 gr, .int .i64 gn] 46))); have k1 := cell_of_obj (o := 1) (u := .slice ap pk.length cp) ob6 rfl; have z6 := frozen_of_obj (o := 1) ob6; have k8 := cell_of_obj (o := 1) (u := .int .i64 gn) nb6 rfl; have BL6 := Lib.hid (BL.out.trans (((Below.refl wr.heap.size wr).alloc (Nat.le_refl _) (.cells #[.int .i32 gr, .int .i64 gn] 46)).mono (Nat.le_of_lt hPl))); have BG6 := Lib.hid (grow_below BL6.out OW2.out g6 (Nat.le_refl _) hPs); have O6 := Lib.hid o6; have OB6 := Lib.hid ob6; obtain ⟨a6, c6, rfl, -, -⟩ := o6.rd; clear g6 ob6 nb6 o6))
        go_roundg (G.length - (k + 1))
        case measure => omega
        case rel =>
          refine ⟨k + 1, _, by omega, rfl, ?_, by go_num, by rw [obj_set OB6.out]; rfl, ?_, BG6.out.setCell (p := ⟨P, 1, none⟩) (Nat.le_refl P) _⟩
          · rw [HPS.out]
          · have e : (places G).take (k + 1) = pk ++ [at0] := by rw [places_take G hlt, HPK.out, HAT.out]
            rw [e]
            have o6 := O6.out
            rw [show (pk ++ [at0]).length = pk.length + 1 by simp] at o6
            exact Own.blk o6 fun g hg => Below.heap_setCell _ _ _ _ (by intro e'; simp only at e'; exact own_ne o6 OB6.out (by decide) (by rw [hg, e']))
      · obtain rfl : k = G.length := by omega
        have eP : (places G).take G.length = places G := by rw [List.take_of_length_le (by rw [places_len]; exact Nat.le_refl _)]
        have hpp : pk = places G := HPK.out.symm.trans eP
        rw [hpp] at ow
        have hpl2 : (places G).length = G.length := places_len G
        obtain ⟨ap2, cp2, ev, rdp, hpB⟩ := (show OwnI P wr _ (places G) from ow).rd
        simp only [Value.slice.injEq] at ev
        obtain ⟨rfl, -, rfl⟩ := ev
        have rg := RD1.out.below bl (fun ad e hp => by rw [← HP.out]; exact (RD1.out.at_ ad e hp).2.1)
        have hgP : ∀ ad, ga = some ad → ad.block < P := fun ad e => by rw [← HP.out]; exact (O1.out.lt ad.block (by subst e; rfl)).2
        have pz : Pz ⟨P, G, ga, gc, ap, cp, wr.heap.size⟩ wr ps0 := by
          refine ⟨?_, rg, rdp, fun ad e => by have := hgP ad e; simp only; omega, fun ad e => ?_, Nat.zero_le _, hG120, by decide, by decide, Nat.le_refl _, hPl, fun ad e => Nat.lt_trans (hgP ad e) hPl, fun ad e => ((show OwnI P wr _ (places G) from ow).lt ad.block (by subst e; rfl)).2⟩
          · rw [OB.out, hplen]; rfl
          · intro e'
            subst e
            exact own_ne ow OB.out (by decide) (by show some ad.block = some P; rw [e'])
        have PZ := Lib.hid pz
        have AC := Lib.hid (alt_all ⟨P, G, ga, gc, ap, cp, wr.heap.size⟩ 21 0 rfl ps0 wr pz rfl rfl)
        clear pz rg rdp ow ob bl
        go_wp2_with fail
        refine AC.out.mono ?_
        rintro e w3 ⟨xv, rfl, p3, k3, nd3⟩
        have hwP : w.heap.size ≤ P := by rw [← HP.out]; exact B1.out.size
        have hwr : w.heap.size ≤ wr.heap.size := by omega
        have BR := Lib.hid ((B1.out.trans (BL.out.mono hwP)).trans (Kp.toBelow k3 hwP hwr))
        have ND := Lib.hid (nd3.mono hwr)
        have P3 := Lib.hid p3
        have PG := Lib.hid (parseG_eq G)
        clear p3 k3 nd3 PZ AC RD1 O1 PB HGX HPK OW OB BL
        generalize altF G 21 ps0 = a at P3 ND PG
        obtain ⟨t, ls⟩ := a
        simp only at P3 ND PG
        have c0 := P3.out.c0
        have c2 := P3.out.c2
        have c5 := P3.out.c5
        have c6 := P3.out.c6
        simp only at c0 c2 c5 c6
        by_cases he : t.err = 0
        · rw [he] at c5
          by_cases hi : t.i < G.length
          · have i3 : (t.i : Int) < (G.length : Int) := by omega
            have e1 := PG.out
            rw [parse2_rest he hi] at e1
            have E1 := Lib.hid e1
            have W := Lib.hid (fun n => wrongC (P3.out.drewN n) hi 4)
            have HE := Lib.hid he
            clear e1 he PG
            go_wp2_with fail
            go_quiet (fail)
            go_wp2_with fail
            refine (W.out _).mono ?_
            rintro e w4 ⟨rfl, p4, k4⟩
            rw [Ps.wrong, if_pos HE.out] at p4
            have c5' := p4.c5
            have c6' := p4.c6
            simp only at c5' c6'
            have B4 := Lib.hid (BR.out.trans (Kp.toBelow ((Kp.below (P := P) (drewN_below (Below.refl w3.heap.size w3) _)).trans k4) hwP BR.out.size))
            clear p4 k4
            generalize place G t.i = pl at c6' E1
            go_wp2_with fail
            go_quiet (fail)
            go_wp2_with fail
            go_ret3
            rw [E1.out]
            exact ⟨_, rfl, Nds.nil _ _, B4.out.trans (drewN_below (Below.refl _ _) _)⟩
          · have i3 : ¬ (t.i : Int) < (G.length : Int) := by omega
            have e1 := PG.out
            rw [parse2_ok he hi] at e1
            have E1 := Lib.hid e1
            clear e1 he PG
            go_wp2_with fail
            go_quiet (fail)
            have c5' : (w3.drewN nq).cell? ⟨P, 5, none⟩ = some (.int .i64 0) := c5
            go_wp2_with fail
            go_ret3
            rw [E1.out]
            exact ⟨_, rfl, ND.out.kept (drewN_below (Below.refl _ _) _), BR.out.trans (drewN_below (Below.refl _ _) _)⟩
        · have he' : (t.err == 0) = false := by simpa using he
          have e1 := PG.out
          rw [parse2_err he] at e1
          have E1 := Lib.hid e1
          clear e1 he PG
          generalize t.err = er at c5 he' E1
          generalize t.wh = wh at c6 E1
          go_wp2_with fail
          go_quiet (fail)
          go_wp2_with fail
          go_quiet (fail)
          go_wp2_with fail
          go_ret3
          rw [E1.out]
          exact ⟨_, rfl, Nds.nil _ _, (BR.out.trans (drewN_below (Below.refl _ _) _)).trans (drewN_below (Below.refl _ _) _)⟩
end Go.Proofs.YtooockbfagkknaaGreatDoor.syn
