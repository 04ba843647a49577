/- Range: the program's. -/
import Derived.Test.YtafdbgielmlihaaDoorPkChClosedCardN
import Derived.Test.YtafdbgielmlihaaDoorPkChClosedCardR
import Derived.ChangeKeysEq
import Derived.WalkMore
import Derived.Test.YtafdbgielmlihaaDoorPkChClosedCardJ
namespace Go.Proofs.YtafdbgielmlihaaDoor
open Go.RowKit Go.Shelf Go.Lib
set_option maxRecDepth 100000
set_option linter.unusedSimpArgs false

def costR (e : Int) (a i : Nat) : List Int := [1, if i = a then e else 0, 0, 0, 0, 0, 0, 0, 0, 0, 0, 0]
theorem costR_len (e : Int) (a i : Nat) : (costR e a i).length = 12 := rfl
theorem costs_range (N a : Nat) {e : Int} (he : e = 1 ∨ e = -1) : Costs (progR e a) ((List.range N).map (costR e a)) := by
  refine ⟨fun i d h => ?_⟩
  rw [List.getElem?_map] at h
  obtain ⟨j, hj, rfl⟩ := Option.map_eq_some_iff.1 h
  obtain ⟨hl, e1⟩ := List.getElem?_eq_some_iff.1 hj
  simp at hl e1
  subst e1
  unfold costR progR
  by_cases hi : i = a
  · simp only [if_pos hi]
    rcases he with rfl | rfl
    · exact ⟨rfl, fun x hx => by simp at hx; omega, by decide +kernel⟩
    · exact ⟨rfl, fun x hx => by simp at hx; omega, by decide +kernel⟩
  · simp only [if_neg hi]
    exact ⟨rfl, fun x hx => by simp at hx; omega, by decide +kernel⟩
theorem progR_pos {e : Int} (he : e = 1 ∨ e = -1) (a i : Nat) : 0 ≤ progR e a i := by
  unfold progR
  split <;> rcases he with rfl | rfl <;> decide +kernel
theorem idxF_map {α β : Type} (f : α → β) (p : β → Bool) (q : α → Bool) (h : ∀ x, p (f x) = q x) (l : List α) : idxF p (l.map f) = idxF q l := by
  unfold idxF
  rw [List.findIdx?_map]
  have : (p ∘ f) = q := funext h
  rw [this]
theorem idx_numbers (c : Chn) (x : Int) : idxF (fun y => decide (x = y)) (c.sales.map (·.number)) = saleI c x := by
  unfold saleI
  exact idxF_map _ _ _ (fun s => by by_cases h : x = s.number <;> simp [h, eq_comm]) _
set_option maxHeartbeats 8000000 in
theorem range_any (c : Chn) (x lo hi : Int) (hv sv : Value) (w : World) (hrg : RangeOf c x lo hi) (hT : Tab w) (hh : SlI w hv c.houses) (hs : SlL w sv c.sales) (hl : c.sales.length ≤ 1000) :
    Calls Tryd.prog 35 #[valC hv sv, .int .i64 x] w (SpanE lo hi (rangeE c x) w) := by
  have HT := Lib.hid hT; have HH := Lib.hid hh; have HS := Lib.hid hs; have HL := Lib.hid hl
  obtain ⟨A, n, cp, rfl, hn, hlc, hcm⟩ := hh.form
  obtain ⟨A2, n2, cp2, rfl, hn2, hlc2, hcm2⟩ := hs.form
  obtain ⟨w0, hw0⟩ : ∃ w0, w0 = (w.alloc (.cells #[.slice A n cp, .slice A2 n2 cp2] 25)).alloc (.cells #[.int .i64 0, .int .i64 0] 48) := ⟨_, rfl⟩
  have E0 := Lib.hid (show Ext w w0 from hw0 ▸ (Ext.al _ _).alloc _)
  have B0 := Lib.hid (show Blk w0 w.heap.size 25 #[.slice A n cp, .slice A2 n2 cp2] from hw0 ▸ (Blk.new _ _ _).alloc _)
  have C0 := Lib.hid (show Blk w0 (w.heap.size + 1) 48 #[.int .i64 0, .int .i64 0] from hw0 ▸ Blk.at_ (by simp))
  have hz0 : w0.heap.size = w.heap.size + 2 := by rw [hw0]; simp
  clear hh hs hT hl
  go_enter Tryd.func35, Tryd.ntmps35
  go_wp2_with fail
  simp only [← hw0]
  clear hw0
  refine (check_any c _ _ _ (HT.out.ext E0.out) (HH.out.ext E0.out) (HS.out.ext E0.out) HL.out).mono ?_
  rintro e w1 ⟨rfl, hE⟩
  have E1 := Lib.hid (E0.out.trans hE); have B1 := Lib.hid (B0.out.ext hE); have C1 := Lib.hid (C0.out.ext hE)
  have hz1 := hE.size
  clear hE
  cases hc : checkP c with
  | false =>
    have HE := Lib.hid (show rangeE c x = 60 by unfold rangeE; rw [hc]; rfl)
    have HZ := Lib.hid (hrg.2 (by rw [HE.out]; decide))
    clear hc hrg
    dsimp only [errB]
    obtain ⟨e0, e1, ef, el⟩ := C1.out.c2
    go_wp2
    refine ret_span rfl C1.out rfl rfl rfl fun W hG => ?_
    exact ⟨by rw [HZ.out.1, HZ.out.2, HE.out], ext_grown E1.out hG (by omega)⟩
  | true =>
    have HR := Lib.hid (check_right hc).1
    have HS10 := Lib.hid (check_right hc).2
    have HCK := Lib.hid hc
    clear hc
    dsimp only [errB]
    have x0 := B1.out.c2
    go_wp2_with fail
    clear x0
    refine (numbers_any c.sales _ _ (HS.out.ext E1.out) (by have := HS10.out; omega)).mono ?_
    rintro e w2 ⟨⟨v2, rfl, ho⟩, hE⟩
    have E2 := Lib.hid (E1.out.trans hE); have B2 := Lib.hid (B1.out.ext hE); have C2 := Lib.hid (C1.out.ext hE)
    have SN := Lib.hid (show SlI w2 v2 (c.sales.map (·.number)) from ho.sl (fun _ => rfl))
    have hz2 := hE.size
    clear hE ho
    go_wp2_with fail
    refine (f85_any _ x _ _ SN.out).mono ?_
    rintro e w3 ⟨rfl, hE⟩
    rw [idx_numbers]
    have E3 := Lib.hid (E2.out.trans hE); have B3 := Lib.hid (B2.out.ext hE); have C3 := Lib.hid (C2.out.ext hE)
    have hz3 := hE.size
    clear hE
    rcases idxF_cases (fun y : Sale => decide (y.number = x)) c.sales with ⟨hno, -⟩ | ⟨a, y, hya, hay, -, -⟩
    · have hsi : saleI c x = -1 := hno
      have HE := Lib.hid (show rangeE c x = 61 by unfold rangeE; rw [HCK.out, if_pos rfl, hsi]; rfl)
      have HZ := Lib.hid (hrg.2 (by rw [HE.out]; decide))
      obtain ⟨e0, e1, ef, el⟩ := C3.out.c2
      rw [hsi]
      clear hno hsi hrg
      go_wp2
      refine ret_span rfl C3.out rfl rfl rfl fun W hG => ?_
      exact ⟨by rw [HZ.out.1, HZ.out.2, HE.out], ext_grown E3.out hG (by omega)⟩
    · have hsi : saleI c x = (a : Int) := hya
      have ha : a < c.sales.length := (List.getElem?_eq_some_iff.1 hay).1
      have HE0 := Lib.hid (show rangeE c x = 0 by unfold rangeE; rw [HCK.out, if_pos rfl, hsi]; rfl)
      have hlh := hrg.1 HE0.out
      rw [hsi, Int.toNat_natCast] at hlh
      obtain ⟨vv, hvv⟩ : ∃ vv : Nat → Int, vv = fun k => if k = 0 then lo else hi := ⟨_, rfl⟩
      have HVV := Lib.hid (show ∀ k : Nat, k < 2 → IsRange c (1 - 2 * (k : Int)) a (vv k) from fun k hk => by
        rw [hvv]
        match k, hk with
        | 0, _ => exact hlh.1
        | 1, _ => exact hlh.2)
      have HV01 := Lib.hid (show vv 0 = lo ∧ vv 1 = hi by rw [hvv]; exact ⟨rfl, rfl⟩)
      rw [hsi]
      clear hya hsi hrg hlh hay hvv
      have han : a < n2 := by have := hn2.out; omega
      have hanz : (a : Int) < (n2 : Int) := by omega
      have ha0 : ¬ (a : Int) < 0 := by omega
      have hn10 : n2 ≤ 10 := by have := HS10.out; have := hn2.out; omega
      have HHA := Lib.hid ha
      clear ha
      have HAB := Lib.hid (fun h => HH.out.lt (w := w) h)
      have HSB := Lib.hid (fun h => HS.out.lt (w := w) h)
      obtain ⟨w4, hw4⟩ : ∃ w4, w4 = w3.alloc (.cells #[.int .i64 0, .int .i64 0] 123) := ⟨_, rfl⟩
      have E4 := Lib.hid (show Ext w3 w4 from hw4 ▸ Ext.al _ _)
      have D4 := Lib.hid (show Blk w4 w3.heap.size 123 #[.int .i64 0, .int .i64 0] from hw4 ▸ Blk.new _ _ _)
      have hz4 : w4.heap.size = w3.heap.size + 1 := by rw [hw4]; simp
      go_wp2
      simp only [← hw4]
      clear hw4
      refine wp_loop_ghost_k (fun g A' U => ∃ (k : Nat), k ≤ 2 ∧ 2 - k ≤ g ∧ Fr 75 [(2, .pointer (some ⟨w.heap.size, 0, none⟩)), (4, .pointer (some ⟨w.heap.size + 1, 0, none⟩)), (7, .int .i64 (a : Int)), (8, .pointer (some ⟨w3.heap.size, 0, none⟩)), (27, .int .i64 (k : Int))] [] A' ∧
        w4.grownBy U (some w3.heap.size) ∧ Blk U w3.heap.size 123 #[.int .i64 (if 0 < k then vv 0 else 0), .int .i64 (if 1 < k then vv 1 else 0)]) 2 ?_ ?_
      · exact ⟨0, by omega, by omega, ⟨rfl, rfl, by simp [Act.eval]⟩, World.grownBy.refl _ _, by simpa using D4.out⟩
      · rintro g A' U ⟨k, hk, hg, hF, hG, hD⟩ J K' hJ hK
        have HJ := Lib.hid hJ; have GU := Lib.hid hG; have DU := Lib.hid hD
        have hzU := hG.size
        obtain ⟨ρ, rfl, hρ⟩ := hF.open_
        simp only [List.forall_mem_cons] at hρ
        obtain ⟨r2, r4, r7, r8, r27, -⟩ := hρ
        simp only [lst, Nat.reduceAdd, r2, r4, r7, r8, r27]
        clear r2 r4 r7 r8 r27 hF hG hD hJ
        have HHU := Lib.hid (((HH.out.ext E3.out).ext E4.out).grown GU.out fun h b o e => by have := HAB.out h b o e; omega)
        have HSU := Lib.hid (((HS.out.ext E3.out).ext E4.out).grown GU.out fun h b o e => by have := HSB.out h b o e; omega)
        have BU := Lib.hid ((B3.out.ext E4.out).grown GU.out (by intro e; injection e with e; omega))
        have CU := Lib.hid ((C3.out.ext E4.out).grown GU.out (by intro e; injection e with e; omega))
        by_cases hlt : k < 2
        · have hltz : (k : Int) < 2 := by omega
          have x0 := (BU.out.alloc (.cells #[.slice A n cp, .slice A2 n2 cp2, .slice none 0 0, .slice none 0 0] 112)).c2
          have y0 := BU.out.c2
          obtain ⟨e, he⟩ : ∃ e : Int, e = 1 - 2 * (k : Int) := ⟨_, rfl⟩
          have he2 : e = 1 ∨ e = -1 := by omega
          have HE2 := Lib.hid he2; have HEK := Lib.hid he
          obtain ⟨U1, hU1⟩ : ∃ U1, U1 = U.alloc (.cells #[.slice A n cp, .slice A2 n2 cp2, .slice none 0 0, .slice none 0 0] 112) := ⟨_, rfl⟩
          have BM1 := Lib.hid (show Blk U1 U.heap.size 112 #[.slice A n cp, .slice A2 n2 cp2, .slice none 0 0, .slice none 0 0] from hU1 ▸ Blk.new _ _ _)
          have EU1 := Lib.hid (show Ext U U1 from hU1 ▸ Ext.al _ _)
          go_wp2
          simp only [← hU1]
          clear x0 y0 hU1
          obtain ⟨mb, hmb⟩ : ∃ mb, U.heap.size = mb := ⟨_, rfl⟩
          rw [hmb] at BM1
          simp only [hmb]
          refine wp_loop_ghost_k (fun g A' V => ∃ (i : Nat) (cvv : Value), i ≤ n2 ∧ n2 - i ≤ g ∧ Fr 75 [(2, .pointer (some ⟨w.heap.size, 0, none⟩)), (4, .pointer (some ⟨w.heap.size + 1, 0, none⟩)), (7, .int .i64 (a : Int)), (8, .pointer (some ⟨w3.heap.size, 0, none⟩)), (9, .int .i64 (k : Int)), (10, .pointer (some ⟨mb, 0, none⟩)), (27, .int .i64 (k : Int)), (34, .slice A2 n2 cp2), (35, .int .i64 (n2 : Int)), (36, .int .i64 (i : Int))] [] A' ∧
            Ext U V ∧ Blk V mb 112 #[.slice A n cp, .slice A2 n2 cp2, .slice none 0 0, cvv] ∧ NewF enc12 12 125 (mb + 1) ((List.range i).map (costR e a)) cvv V) n2 ?_ ?_
          · exact ⟨0, .slice none 0 0, by omega, by omega, ⟨rfl, rfl, by simp [Act.eval]⟩, EU1.out, BM1.out, ⟨Own.nil _ _, none, 0, rfl, fun _ => rfl⟩⟩
          · rintro g2 A2' wr ⟨i, cvv, hiN, hg2, hF, hE, hBM, hCN⟩ J2 K2 hJ2 hK2
            have HJ2 := Lib.hid hJ2; have EX := Lib.hid hE; have BM := Lib.hid hBM; have CN := Lib.hid hCN
            have hzr := hE.size
            have hmlt := hBM.lt
            obtain ⟨ρ, rfl, hρ⟩ := hF.open_
            simp only [List.forall_mem_cons] at hρ
            obtain ⟨r2, r4, r7, r8, r9, r10, r27, r34, r35, r36, -⟩ := hρ
            simp only [lst, Nat.reduceAdd, r2, r4, r7, r8, r9, r10, r27, r34, r35, r36]
            clear r2 r4 r7 r8 r9 r10 r27 r34 r35 r36 hF hE hBM hCN hJ2
            by_cases hin : i < n2
            · have hinz : (i : Int) < (n2 : Int) := by omega
              obtain ⟨w6, hw6⟩ : ∃ w6, w6 = wr.alloc (.cells #[.int .i64 1, .int .i64 (if i = a then e else 0), .int .i64 0, .int .i64 0, .int .i64 0, .int .i64 0, .int .i64 0, .int .i64 0, .int .i64 0, .int .i64 0, .int .i64 0, .int .i64 0] 125) := ⟨_, rfl⟩
              have E6 := Lib.hid (show Ext wr w6 from hw6 ▸ Ext.al _ _)
              have BX6 := Lib.hid (show Blk w6 wr.heap.size 125 (enc12 (costR e a i)).toArray from by
                rw [enc12_eq (costR_len e a i), hw6]
                exact Blk.new _ _ _)
              have hz3 := E6.out.size
              have HB6 := Lib.hid (show mb + 1 ≤ w6.heap.size by omega)
              have BM6 := Lib.hid (BM.out.ext E6.out)
              have CC6 := Lib.hid (show CApp (mb + 1) w6 wr.heap.size (costR e a i) ((List.range i).map (costR e a)) cvv w6 from ⟨Below.refl _ _, BX6.out, ⟨CN.out.1.ext E6.out, CN.out.2⟩⟩)
              by_cases hia : i = a
              · rw [if_pos hia, he] at hw6
                have hiz : ((i : Int) == (a : Int)) = true := by rw [hia]; simp
                clear hia
                go_wp2
                simp only [← hw6]
                clear hw6 hiz he
                obtain ⟨q0, q1, q2, q3, q4, q5, q6, q7, q8, q9, q10, q11, hqe⟩ := twelve (show ((costR e a i)).length = 12 from by exact costR_len _ _ _)
                have HQE := Lib.hid (show enc12 (costR e a i) = [.int .i64 q0, .int .i64 q1, .int .i64 q2, .int .i64 q3, .int .i64 q4, .int .i64 q5, .int .i64 q6, .int .i64 q7, .int .i64 q8, .int .i64 q9, .int .i64 q10, .int .i64 q11] by rw [hqe]; rfl)
                clear hqe
                have mm := fun (V : World) (h : CApp (mb + 1) w6 wr.heap.size (costR e a i) ((List.range i).map (costR e a)) cvv V) => (show Blk V mb _ _ from (h.b.block mb (by omega)).trans BM6.out).c4
                have kx0 := fun (V : World) (h : CApp (mb + 1) w6 wr.heap.size (costR e a i) ((List.range i).map (costR e a)) cvv V) => (show V.cell? ⟨wr.heap.size, 0, none⟩ = some (.int .i64 q0) from by have h1 := h.x.cell 0; rw [HQE.out] at h1; exact h1)
                have kx1 := fun (V : World) (h : CApp (mb + 1) w6 wr.heap.size (costR e a i) ((List.range i).map (costR e a)) cvv V) => (show V.cell? ⟨wr.heap.size, 1, none⟩ = some (.int .i64 q1) from by have h1 := h.x.cell 1; rw [HQE.out] at h1; exact h1)
                have kx2 := fun (V : World) (h : CApp (mb + 1) w6 wr.heap.size (costR e a i) ((List.range i).map (costR e a)) cvv V) => (show V.cell? ⟨wr.heap.size, 2, none⟩ = some (.int .i64 q2) from by have h1 := h.x.cell 2; rw [HQE.out] at h1; exact h1)
                have kx3 := fun (V : World) (h : CApp (mb + 1) w6 wr.heap.size (costR e a i) ((List.range i).map (costR e a)) cvv V) => (show V.cell? ⟨wr.heap.size, 3, none⟩ = some (.int .i64 q3) from by have h1 := h.x.cell 3; rw [HQE.out] at h1; exact h1)
                have kx4 := fun (V : World) (h : CApp (mb + 1) w6 wr.heap.size (costR e a i) ((List.range i).map (costR e a)) cvv V) => (show V.cell? ⟨wr.heap.size, 4, none⟩ = some (.int .i64 q4) from by have h1 := h.x.cell 4; rw [HQE.out] at h1; exact h1)
                have kx5 := fun (V : World) (h : CApp (mb + 1) w6 wr.heap.size (costR e a i) ((List.range i).map (costR e a)) cvv V) => (show V.cell? ⟨wr.heap.size, 5, none⟩ = some (.int .i64 q5) from by have h1 := h.x.cell 5; rw [HQE.out] at h1; exact h1)
                have kx6 := fun (V : World) (h : CApp (mb + 1) w6 wr.heap.size (costR e a i) ((List.range i).map (costR e a)) cvv V) => (show V.cell? ⟨wr.heap.size, 6, none⟩ = some (.int .i64 q6) from by have h1 := h.x.cell 6; rw [HQE.out] at h1; exact h1)
                have kx7 := fun (V : World) (h : CApp (mb + 1) w6 wr.heap.size (costR e a i) ((List.range i).map (costR e a)) cvv V) => (show V.cell? ⟨wr.heap.size, 7, none⟩ = some (.int .i64 q7) from by have h1 := h.x.cell 7; rw [HQE.out] at h1; exact h1)
                have kx8 := fun (V : World) (h : CApp (mb + 1) w6 wr.heap.size (costR e a i) ((List.range i).map (costR e a)) cvv V) => (show V.cell? ⟨wr.heap.size, 8, none⟩ = some (.int .i64 q8) from by have h1 := h.x.cell 8; rw [HQE.out] at h1; exact h1)
                have kx9 := fun (V : World) (h : CApp (mb + 1) w6 wr.heap.size (costR e a i) ((List.range i).map (costR e a)) cvv V) => (show V.cell? ⟨wr.heap.size, 9, none⟩ = some (.int .i64 q9) from by have h1 := h.x.cell 9; rw [HQE.out] at h1; exact h1)
                have kx10 := fun (V : World) (h : CApp (mb + 1) w6 wr.heap.size (costR e a i) ((List.range i).map (costR e a)) cvv V) => (show V.cell? ⟨wr.heap.size, 10, none⟩ = some (.int .i64 q10) from by have h1 := h.x.cell 10; rw [HQE.out] at h1; exact h1)
                have kx11 := fun (V : World) (h : CApp (mb + 1) w6 wr.heap.size (costR e a i) ((List.range i).map (costR e a)) cvv V) => (show V.cell? ⟨wr.heap.size, 11, none⟩ = some (.int .i64 q11) from by have h1 := h.x.cell 11; rw [HQE.out] at h1; exact h1)
                refine wp_region_tame_cut (CApp (mb + 1) w6 wr.heap.size (costR e a i) ((List.range i).map (costR e a)) cvv) (RF enc12 12 125 ((mb + 1)) (((List.range i).map (costR e a)) ++ [(costR e a i)]) (costR e a i)) (by kernel_rfl) 75 rfl _ rfl (by decide +kernel) (by decide +kernel) (by decide +kernel) rfl (CC6.out.ext (Ext.refl _).drew HB6.out) ?_
                simp only [List.dropLast]
                repeat (apply tame_q rfl; (intro ρ W hC hr hD; (obtain ⟨hrc, hrg, hrf, hrs⟩ := hr); (simp [go_sem] at hD); go_simp; first | exact ⟨⟨hC, RF.refl _⟩, rfl⟩ | exact rfl); simp only [List.nil_append, List.cons_append])
                apply tame_v rfl (OneF enc12 125 (costR e a i)) (fun v V V' _ hR h => by obtain ⟨g, h1, h2⟩ := h; exact ⟨g, h1, hR.2.2.1 g h2⟩)
                · intro ρ V hC hr hD
                  obtain ⟨hrc, hrg, hrf, hrs⟩ := hr
                  simp [go_sem] at hD
                  go_simp
                  exact ⟨⟨hC.ext (Ext.al _ _) (Nat.le_trans HB6.out hC.b.size), RF.ext (Ext.al _ _)⟩, ⟨_, rfl, by rw [HQE.out]; exact Blk.new _ _ _⟩⟩
                simp only [List.nil_append, List.cons_append]
                apply tame_v rfl (NewF enc12 12 125 ((mb + 1)) (((List.range i).map (costR e a)) ++ [(costR e a i)])) (fun v V V' _ hR h => ⟨hR.2.1 _ (List.prefix_refl _) v h.1, h.2⟩)
                · intro ρ V hC hr hD
                  obtain ⟨hrc, hrg, hrf, hrs⟩ := hr
                  simp [go_sem] at hD
                  obtain ⟨d1, g, d2, d3⟩ := hD
                  obtain ⟨v', V', hrun, hnew, hR, hB⟩ := run_appF (t := 110) (ty := 110) (enc := enc12) (sz := 12) (m := [(costR e a i)]) (y := (costR e a i)) Tryd.underlying110 info125x rfl (by decide) (by decide) enc12_len enc12_1 hC.c (F := ((List.range i).map (costR e a)) ++ [(costR e a i)]) (List.prefix_refl _) (by simp; omega) (Nat.le_trans HB6.out hC.b.size) (Sl.single (c := 1) d3 (Nat.le_refl _) (by decide))
                  rw [← d2, ← d1] at hrun
                  show opGives _ _ _ _ _ _ _
                  unfold opGives execOp
                  simp only [resolve, invoke, builtin, Sem.run_bind, Sem.run_pure, Result.andThen_ok, List.map_toArray, List.map_cons, List.map_nil, hrun]
                  exact ⟨⟨⟨hC.b.trans hB, hR.2.2.1 _ hC.x, ⟨hR.2.1 _ (List.prefix_append _ _) _ hC.c.1, hC.c.2⟩⟩, hR⟩, hnew⟩
                simp only [List.nil_append, List.cons_append]
                repeat (apply tame_q rfl; (intro ρ W hC hr hD; (obtain ⟨hrc, hrg, hrf, hrs⟩ := hr); (simp [go_sem] at hD); go_simp; first | exact ⟨⟨hC, RF.refl _⟩, rfl⟩ | exact rfl); simp only [List.nil_append, List.cons_append])
                refine tame_end_put rfl rfl (fun ρ V hC hr hF => ?_)
                simp [go_sem] at hF
                obtain ⟨f1, f2, f3, f4, f5, f6, ⟨g25, f7, -⟩, hN, f9, f10⟩ := hF
                simp only [putF, f1, f2, f3, f4, f5, f6, f7, f9, f10, List.set_cons_succ, List.set_cons_zero]
                generalize ρ (Operand.tmp 54) = cv2 at *
                obtain ⟨A9, c9, e9, -⟩ := hN.2
                rw [show (((List.range i).map (costR e a)) ++ [(costR e a i)]).length = (i + 1) by simp] at e9
                subst e9
                have CN2 := Lib.hid hN
                have BM7 := Lib.hid (show Blk V mb _ _ from (hC.b.block mb (by omega)).trans BM6.out)
                have EB7 := Lib.hid hC.b
                clear f1 f2 f3 f4 f5 f6 f7 f9 f10 hN hr hC mm kx0 kx1 kx2 kx3 kx4 kx5 kx6 kx7 kx8 kx9 kx10 kx11
                have x0 := BM7.out.c4
                go_wp2
                have hbsz := EB7.out.size
                have HEV := Lib.hid (show Ext U V from ⟨EB7.out.os.trans (E6.out.os.trans EX.out.os), EB7.out.tape.trans (E6.out.tape.trans EX.out.tape), EB7.out.output.trans (E6.out.output.trans EX.out.output), by omega, fun i hi => (EB7.out.block i (by omega)).trans (((EX.out.trans E6.out)).block i hi)⟩)
                refine Handed.intro (n2 - (i + 1)) (by omega) (HJ2.out _ _ _ ⟨i + 1, .slice A9 (i + 1) c9, by omega, Nat.le_refl _, ⟨rfl, rfl, by simp [Act.eval]⟩, HEV.out.setCell (by dsimp only; omega) _, ?_, ?_⟩)
                · have := BM7.out.set_ 3 (.slice A9 (i + 1) c9)
                  simpa using this
                · have hc := CN2.out
                  rw [List.range_succ, List.map_append]
                  exact ⟨own_far hc.1 (by dsimp only; omega) _, hc.2⟩
              · rw [if_neg hia] at hw6
                have hiz : ((i : Int) == (a : Int)) = false := by simpa using fun e : (i : Int) = a => hia (by omega)
                clear hia
                go_wp2
                simp only [← hw6]
                clear hw6 hiz he
                obtain ⟨q0, q1, q2, q3, q4, q5, q6, q7, q8, q9, q10, q11, hqe⟩ := twelve (show ((costR e a i)).length = 12 from by exact costR_len _ _ _)
                have HQE := Lib.hid (show enc12 (costR e a i) = [.int .i64 q0, .int .i64 q1, .int .i64 q2, .int .i64 q3, .int .i64 q4, .int .i64 q5, .int .i64 q6, .int .i64 q7, .int .i64 q8, .int .i64 q9, .int .i64 q10, .int .i64 q11] by rw [hqe]; rfl)
                clear hqe
                have mm := fun (V : World) (h : CApp (mb + 1) w6 wr.heap.size (costR e a i) ((List.range i).map (costR e a)) cvv V) => (show Blk V mb _ _ from (h.b.block mb (by omega)).trans BM6.out).c4
                have kx0 := fun (V : World) (h : CApp (mb + 1) w6 wr.heap.size (costR e a i) ((List.range i).map (costR e a)) cvv V) => (show V.cell? ⟨wr.heap.size, 0, none⟩ = some (.int .i64 q0) from by have h1 := h.x.cell 0; rw [HQE.out] at h1; exact h1)
                have kx1 := fun (V : World) (h : CApp (mb + 1) w6 wr.heap.size (costR e a i) ((List.range i).map (costR e a)) cvv V) => (show V.cell? ⟨wr.heap.size, 1, none⟩ = some (.int .i64 q1) from by have h1 := h.x.cell 1; rw [HQE.out] at h1; exact h1)
                have kx2 := fun (V : World) (h : CApp (mb + 1) w6 wr.heap.size (costR e a i) ((List.range i).map (costR e a)) cvv V) => (show V.cell? ⟨wr.heap.size, 2, none⟩ = some (.int .i64 q2) from by have h1 := h.x.cell 2; rw [HQE.out] at h1; exact h1)
                have kx3 := fun (V : World) (h : CApp (mb + 1) w6 wr.heap.size (costR e a i) ((List.range i).map (costR e a)) cvv V) => (show V.cell? ⟨wr.heap.size, 3, none⟩ = some (.int .i64 q3) from by have h1 := h.x.cell 3; rw [HQE.out] at h1; exact h1)
                have kx4 := fun (V : World) (h : CApp (mb + 1) w6 wr.heap.size (costR e a i) ((List.range i).map (costR e a)) cvv V) => (show V.cell? ⟨wr.heap.size, 4, none⟩ = some (.int .i64 q4) from by have h1 := h.x.cell 4; rw [HQE.out] at h1; exact h1)
                have kx5 := fun (V : World) (h : CApp (mb + 1) w6 wr.heap.size (costR e a i) ((List.range i).map (costR e a)) cvv V) => (show V.cell? ⟨wr.heap.size, 5, none⟩ = some (.int .i64 q5) from by have h1 := h.x.cell 5; rw [HQE.out] at h1; exact h1)
                have kx6 := fun (V : World) (h : CApp (mb + 1) w6 wr.heap.size (costR e a i) ((List.range i).map (costR e a)) cvv V) => (show V.cell? ⟨wr.heap.size, 6, none⟩ = some (.int .i64 q6) from by have h1 := h.x.cell 6; rw [HQE.out] at h1; exact h1)
                have kx7 := fun (V : World) (h : CApp (mb + 1) w6 wr.heap.size (costR e a i) ((List.range i).map (costR e a)) cvv V) => (show V.cell? ⟨wr.heap.size, 7, none⟩ = some (.int .i64 q7) from by have h1 := h.x.cell 7; rw [HQE.out] at h1; exact h1)
                have kx8 := fun (V : World) (h : CApp (mb + 1) w6 wr.heap.size (costR e a i) ((List.range i).map (costR e a)) cvv V) => (show V.cell? ⟨wr.heap.size, 8, none⟩ = some (.int .i64 q8) from by have h1 := h.x.cell 8; rw [HQE.out] at h1; exact h1)
                have kx9 := fun (V : World) (h : CApp (mb + 1) w6 wr.heap.size (costR e a i) ((List.range i).map (costR e a)) cvv V) => (show V.cell? ⟨wr.heap.size, 9, none⟩ = some (.int .i64 q9) from by have h1 := h.x.cell 9; rw [HQE.out] at h1; exact h1)
                have kx10 := fun (V : World) (h : CApp (mb + 1) w6 wr.heap.size (costR e a i) ((List.range i).map (costR e a)) cvv V) => (show V.cell? ⟨wr.heap.size, 10, none⟩ = some (.int .i64 q10) from by have h1 := h.x.cell 10; rw [HQE.out] at h1; exact h1)
                have kx11 := fun (V : World) (h : CApp (mb + 1) w6 wr.heap.size (costR e a i) ((List.range i).map (costR e a)) cvv V) => (show V.cell? ⟨wr.heap.size, 11, none⟩ = some (.int .i64 q11) from by have h1 := h.x.cell 11; rw [HQE.out] at h1; exact h1)
                refine wp_region_tame_cut (CApp (mb + 1) w6 wr.heap.size (costR e a i) ((List.range i).map (costR e a)) cvv) (RF enc12 12 125 ((mb + 1)) (((List.range i).map (costR e a)) ++ [(costR e a i)]) (costR e a i)) (by kernel_rfl) 75 rfl _ rfl (by decide +kernel) (by decide +kernel) (by decide +kernel) rfl (CC6.out.ext (Ext.refl _).drew HB6.out) ?_
                simp only [List.dropLast]
                repeat (apply tame_q rfl; (intro ρ W hC hr hD; (obtain ⟨hrc, hrg, hrf, hrs⟩ := hr); (simp [go_sem] at hD); go_simp; first | exact ⟨⟨hC, RF.refl _⟩, rfl⟩ | exact rfl); simp only [List.nil_append, List.cons_append])
                apply tame_v rfl (OneF enc12 125 (costR e a i)) (fun v V V' _ hR h => by obtain ⟨g, h1, h2⟩ := h; exact ⟨g, h1, hR.2.2.1 g h2⟩)
                · intro ρ V hC hr hD
                  obtain ⟨hrc, hrg, hrf, hrs⟩ := hr
                  simp [go_sem] at hD
                  go_simp
                  exact ⟨⟨hC.ext (Ext.al _ _) (Nat.le_trans HB6.out hC.b.size), RF.ext (Ext.al _ _)⟩, ⟨_, rfl, by rw [HQE.out]; exact Blk.new _ _ _⟩⟩
                simp only [List.nil_append, List.cons_append]
                apply tame_v rfl (NewF enc12 12 125 ((mb + 1)) (((List.range i).map (costR e a)) ++ [(costR e a i)])) (fun v V V' _ hR h => ⟨hR.2.1 _ (List.prefix_refl _) v h.1, h.2⟩)
                · intro ρ V hC hr hD
                  obtain ⟨hrc, hrg, hrf, hrs⟩ := hr
                  simp [go_sem] at hD
                  obtain ⟨d1, g, d2, d3⟩ := hD
                  obtain ⟨v', V', hrun, hnew, hR, hB⟩ := run_appF (t := 110) (ty := 110) (enc := enc12) (sz := 12) (m := [(costR e a i)]) (y := (costR e a i)) Tryd.underlying110 info125x rfl (by decide) (by decide) enc12_len enc12_1 hC.c (F := ((List.range i).map (costR e a)) ++ [(costR e a i)]) (List.prefix_refl _) (by simp; omega) (Nat.le_trans HB6.out hC.b.size) (Sl.single (c := 1) d3 (Nat.le_refl _) (by decide))
                  rw [← d2, ← d1] at hrun
                  show opGives _ _ _ _ _ _ _
                  unfold opGives execOp
                  simp only [resolve, invoke, builtin, Sem.run_bind, Sem.run_pure, Result.andThen_ok, List.map_toArray, List.map_cons, List.map_nil, hrun]
                  exact ⟨⟨⟨hC.b.trans hB, hR.2.2.1 _ hC.x, ⟨hR.2.1 _ (List.prefix_append _ _) _ hC.c.1, hC.c.2⟩⟩, hR⟩, hnew⟩
                simp only [List.nil_append, List.cons_append]
                repeat (apply tame_q rfl; (intro ρ W hC hr hD; (obtain ⟨hrc, hrg, hrf, hrs⟩ := hr); (simp [go_sem] at hD); go_simp; first | exact ⟨⟨hC, RF.refl _⟩, rfl⟩ | exact rfl); simp only [List.nil_append, List.cons_append])
                refine tame_end_put rfl rfl (fun ρ V hC hr hF => ?_)
                simp [go_sem] at hF
                obtain ⟨f1, f2, f3, f4, f5, f6, ⟨g25, f7, -⟩, hN, f9, f10⟩ := hF
                simp only [putF, f1, f2, f3, f4, f5, f6, f7, f9, f10, List.set_cons_succ, List.set_cons_zero]
                generalize ρ (Operand.tmp 54) = cv2 at *
                obtain ⟨A9, c9, e9, -⟩ := hN.2
                rw [show (((List.range i).map (costR e a)) ++ [(costR e a i)]).length = (i + 1) by simp] at e9
                subst e9
                have CN2 := Lib.hid hN
                have BM7 := Lib.hid (show Blk V mb _ _ from (hC.b.block mb (by omega)).trans BM6.out)
                have EB7 := Lib.hid hC.b
                clear f1 f2 f3 f4 f5 f6 f7 f9 f10 hN hr hC mm kx0 kx1 kx2 kx3 kx4 kx5 kx6 kx7 kx8 kx9 kx10 kx11
                have x0 := BM7.out.c4
                go_wp2
                have hbsz := EB7.out.size
                have HEV := Lib.hid (show Ext U V from ⟨EB7.out.os.trans (E6.out.os.trans EX.out.os), EB7.out.tape.trans (E6.out.tape.trans EX.out.tape), EB7.out.output.trans (E6.out.output.trans EX.out.output), by omega, fun i hi => (EB7.out.block i (by omega)).trans (((EX.out.trans E6.out)).block i hi)⟩)
                refine Handed.intro (n2 - (i + 1)) (by omega) (HJ2.out _ _ _ ⟨i + 1, .slice A9 (i + 1) c9, by omega, Nat.le_refl _, ⟨rfl, rfl, by simp [Act.eval]⟩, HEV.out.setCell (by dsimp only; omega) _, ?_, ?_⟩)
                · have := BM7.out.set_ 3 (.slice A9 (i + 1) c9)
                  simpa using this
                · have hc := CN2.out
                  rw [List.range_succ, List.map_append]
                  exact ⟨own_far hc.1 (by dsimp only; omega) _, hc.2⟩
            · have HE := Lib.hid (show i = n2 by omega)
              have HCL := Lib.hid (show ((List.range i).map (costR e a)).length = c.sales.length by rw [HE.out]; simp; exact hn2.out)
              obtain ⟨A9, c9, e9, -⟩ := CN.out.2
              subst e9
              go_wp2_with fail
              refine (closed_any (c := c) (f := progR e a) (C := (List.range i).map (costR e a)) HR.out (by have := HS10.out; omega) (costs_range i a HE2.out) HCL.out (progR_pos HE2.out a) BM.out (HHU.out.ext EX.out) (HSU.out.ext EX.out) (Own.sl enc12_len CN.out.1) ?_ ?_ ?_).mono ?_
              · intro h0 b o e
                have := HAB.out h0 b o e
                omega
              · intro h0 b o e
                have := HSB.out h0 b o e
                omega
              · intro h0 b o e
                rcases own_form CN.out.1 with ⟨_, h1⟩ | ⟨g, cap, cur, h1, h2, h3, _⟩
                · rw [h1] at h0; simp at h0
                · rw [e] at h1
                  injection h1 with h1
                  injection h1 with h1
                  injection h1 with h1 _ _
                  omega
              rintro e' w' ⟨gm, m, ⟨v, rfl⟩, hG, hB, hgm, hRM, hO⟩
              have hml : m.length = c.sales.length := by rw [feas_len hO.1, at_len]
              have hv := range_prog HR.out HE2.out HHA.out hO (HEK.out ▸ HVV.out k hlt)
              have hva : m[a]? = some (vv k) := by
                have h1 : a < m.length := by rw [hml]; exact HHA.out
                rw [List.getElem?_eq_getElem h1] at hv ⊢
                exact congrArg some hv
              have hmn : a < m.length := by rw [hml]; exact HHA.out
              have hmz : (a : Int) < (m.length : Int) := by omega
              have HG := Lib.hid hG; have HB := Lib.hid hB; have HRM := Lib.hid hRM
              have DW := Lib.hid ((DU.out.ext EX.out).grown hG (by intro e; injection e with e; omega))
              have G4 := Lib.hid (show w4.grownBy w' (some w3.heap.size) from grown_far (grown_ext GU.out EX.out) hG (by omega))
              obtain ⟨b0, b1, b2, b3, bf, bl⟩ := hB.c4
              have cm := hRM.cell hva
              obtain ⟨d0, d1, df, dl⟩ := DW.out.c2
              obtain ⟨uk, duk⟩ : ∃ u, w'.cell? ⟨w3.heap.size, k, none⟩ = some u := by
                match k, hlt, d0, d1 with
                | 0, _, d0, _ => exact ⟨_, d0⟩
                | 1, _, _, d1 => exact ⟨_, d1⟩
              have HKN := Lib.hid (show Blk (w'.setCell ⟨w3.heap.size, k, none⟩ (.int .i64 (vv k))) w3.heap.size 123 #[.int .i64 (if 0 < k + 1 then vv 0 else 0), .int .i64 (if 1 < k + 1 then vv 1 else 0)] from by
                have h := DW.out.set_ k (.int .i64 (vv k))
                match k, hlt with
                | 0, _ => simpa using h
                | 1, _ => simpa using h)
              clear hG hB hRM hO hv hva d0 d1
              go_wp2
              exact Handed.intro (2 - (k + 1)) (by omega) (HJ.out _ _ _ ⟨k + 1, by omega, Nat.le_refl _, ⟨rfl, rfl, by simp [Act.eval]⟩, grown_set G4.out (p := ⟨w3.heap.size, k, none⟩) (.inl rfl) _, HKN.out⟩)
        · have HE := Lib.hid (show k = 2 by omega)
          obtain ⟨d0, d1, -, -⟩ := DU.out.c2
          obtain ⟨e0, e1, ef, el⟩ := CU.out.c2
          rw [HE.out] at d0 d1
          simp only [if_pos (show 0 < 2 by omega), if_pos (show 1 < 2 by omega), HV01.out.1, HV01.out.2] at d0 d1
          go_wp2
          refine ret_span rfl CU.out rfl rfl rfl fun W hG => ?_
          rw [HE0.out]
          exact ⟨rfl, ext_grown (ext_grown (E3.out.trans E4.out) GU.out (by omega)) hG (by omega)⟩
end Go.Proofs.YtafdbgielmlihaaDoor
/- Passes: the program's. -/
namespace Go.Proofs.YtafdbgielmlihaaDoor
open Go.RowKit Go.Shelf Go.Lib
set_option maxRecDepth 100000
set_option linter.unusedSimpArgs false

theorem und116a : Tryd.prog.underlying 116 = some (.array 2 4) := by kernel_rfl
theorem info4a : (Tryd.prog.info? 4).isSome = true := by kernel_rfl
theorem und4a : Tryd.prog.underlying 4 = some .bool := by kernel_rfl
theorem cells4a : Tryd.prog.cellsOf 4 = 1 := by kernel_rfl
theorem eqBB (s b : Bool) (w : World) : (Op.equalIn 10000 116 (.agg #[.bool s, .bool b]) (.agg #[.bool true, .bool true])).run Tryd.prog w = .ok (s && b) w := by
  obtain ⟨i, hi⟩ := Option.isSome_iff_exists.1 info4a
  have h := run_equalIn_array (w := w) 9999 #[.bool s, .bool b] #[.bool true, .bool true] und116a hi
  rw [show (10000 : Nat) = 9999 + 1 from rfl, h, cells4a]
  have u := und4a
  have a := Tryd.isAgg4
  simp only [show List.range 2 = [0, 1] from rfl]
  cases s <;> cases b <;> simp [Op.eqItems, go_sem, u, a]
set_option maxHeartbeats 8000000 in
theorem passes_any (c : Chn) (l : List Int) (hv sv : Value) (w : World) (hcl : CloseOf c l) (hT : Tab w) (hh : SlI w hv c.houses) (hs : SlL w sv c.sales) (hl : c.sales.length ≤ 1000) :
    Calls Tryd.prog 28 #[valC hv sv] w (ListE (passesL c l) (errB (checkP c) 60) w) := by
  have HT := Lib.hid hT; have HH := Lib.hid hh; have HS := Lib.hid hs; have HL := Lib.hid hl
  obtain ⟨A, n, cp, rfl, hn, hlc, hcm⟩ := hh.form
  obtain ⟨A2, n2, cp2, rfl, hn2, hlc2, hcm2⟩ := hs.form
  clear hh hs hT hl
  cases hc : checkP c with
  | false =>
    have HO := Lib.hid (show passesL c l = [] by unfold passesL; rw [hc]; rfl)
    have HCK := Lib.hid hc
    clear hcl hc
    go_enter Tryd.func28, Tryd.ntmps28
    go_wp2_with fail
    refine (opened_no c _ _ _ (HT.out.ext (Ext.al _ _)) (HH.out.ext (Ext.al _ _)) (HS.out.ext (Ext.al _ _)) HL.out HCK.out).mono ?_
    rintro e w1 ⟨rfl, hE⟩
    have E1 := Lib.hid ((Ext.al w _).trans hE); clear hE
    go_wp2
    go_ret2
    exact ⟨⟨.slice none 0 0, by rfl, by rw [HO.out]; exact Sl.nil _⟩, E1.out⟩
  | true =>
    have HPL := Lib.hid (show passesL c l = passL c l by unfold passesL; rw [hc]; rfl)
    have HO := Lib.hid (hcl.1 hc)
    have HCLO := Lib.hid hcl
    have HCK := Lib.hid hc
    have HR := Lib.hid (check_right hc).1
    have HS10 := Lib.hid (check_right hc).2
    have B0 := Lib.hid (show Blk (w.alloc (.cells #[.slice A n cp, .slice A2 n2 cp2] 25)) w.heap.size 25 #[.slice A n cp, .slice A2 n2 cp2] from Blk.new _ _ _)
    clear hcl hc
    go_enter Tryd.func28, Tryd.ntmps28
    go_wp2_with fail
    refine (opened_yes c l _ _ _ HCLO.out (HT.out.ext (Ext.al _ _)) (HH.out.ext (Ext.al _ _)) (HS.out.ext (Ext.al _ _)) HCK.out).mono ?_
    rintro e w2 ⟨mb, gm, hv', sv', cv', rfl, hE, h1, h2, h3, h4, h5, h6'⟩
    have HLN := Lib.hid (close_len HO.out)
    have E2 := Lib.hid ((Ext.al w _).trans hE); have B2 := Lib.hid (B0.out.ext hE)
    have BM := Lib.hid h3; have RM := Lib.hid h4
    clear hE h3 h4 h5 h6'
    have hN : c.sales.length = n2 := by have := hn2.out; omega
    rw [hN] at BM
    have h6 : n ≤ 6 := by have := HR.out.h6; have := hn.out; omega
    have h10 : n2 ≤ 10 := by have := HS10.out; omega
    obtain ⟨b0, b1, bf, bl⟩ := B2.out.c2
    clear hN
    go_wp2
    clear b0 b1 bf bl
    have hb2 := B2.out.lt
    have hbm := BM.out.lt
    have hrm := RM.out.lt
    refine wp_loop_ghost_k (fun g A' W => ∃ (kk : Nat) (A1 : Option Addr) (n1 d1 : Nat), kk ≤ n ∧ n - kk ≤ g ∧ Fr 83 [(1, .pointer (some ⟨w.heap.size, 0, none⟩)), (4, .pointer (some ⟨mb, 0, none⟩)), (6, .slice A1 n1 d1), (21, .slice A n cp), (22, .int .i64 (n : Int)), (23, .int .i64 (kk : Int))] [] A' ∧
      Ext w2 W ∧ Own encI 3 1 W w2.heap.size (.slice A1 n1 d1) ((c.houses.take kk).filter (passB c l))) n ?_ ?_
    · exact ⟨0, none, 0, 0, by omega, by omega, ⟨rfl, rfl, by simp [Act.eval]⟩, Ext.refl _, by simpa using Own.nil _ _⟩
    · rintro g A' W ⟨kk, A1, n1, d1, hkk, hg, hF, hE, hOw⟩ J K' hJ hK
      have HJ := Lib.hid hJ; have EW := Lib.hid hE; have OW := Lib.hid hOw
      obtain ⟨ρ, rfl, hρ⟩ := hF.open_
      simp only [List.forall_mem_cons] at hρ
      obtain ⟨r1, r4, r6, r21, r22, r23, -⟩ := hρ
      simp only [lst, Nat.reduceAdd, r1, r4, r6, r21, r22, r23]
      clear r1 r4 r6 r21 r22 r23 hF hE hOw hJ
      by_cases hlt : kk < n
      · have hltz : (kk : Int) < (n : Int) := by omega
        obtain ⟨b9, off9, h, rfl, hx9, -, hcell9⟩ := HH.out.at_ hlt
        have c9 := SlI.cell hcell9 (E2.out.trans EW.out)
        have HPS := Lib.hid (pass_snoc (l := l) hx9)
        obtain ⟨b0, b1, bf, bl⟩ := ((B2.out.ext EW.out).alloc (.cells #[.bool false, .bool false] 116)).c2
        have hzW0 := EW.out.size
        clear hx9 hcell9
        go_wp2
        clear b0 b1 bf bl c9
        refine wp_loop_ghost_k (fun g A' W' => ∃ (i : Nat) (b s : Bool), i ≤ n2 ∧ n2 - i ≤ g ∧ Fr 83 [(1, .pointer (some ⟨w.heap.size, 0, none⟩)), (4, .pointer (some ⟨mb, 0, none⟩)), (6, .slice A1 n1 d1), (8, .int .i64 h), (9, .pointer (some ⟨W.heap.size, 0, none⟩)), (21, .slice (some ⟨b9, off9, none⟩) n cp), (22, .int .i64 (n : Int)), (23, .int .i64 (kk : Int)), (28, .slice A2 n2 cp2), (29, .int .i64 (n2 : Int)), (30, .int .i64 (i : Int))] [] A' ∧
          Ext W W' ∧ Blk W' W.heap.size 116 #[.bool s, .bool b] ∧ buysB ((c.sales.zip l).take i) h = b ∧ sellsB ((c.sales.zip l).take i) h = s) n2 ?_ ?_
        · exact ⟨0, false, false, by omega, by omega, ⟨rfl, rfl, by simp [Act.eval]⟩, Ext.al _ _, Blk.new _ _ _, rfl, rfl⟩
        · rintro g2 A'2 W3 ⟨i, b, s, hi, hg2, hF, hE, hB9, hb, hs⟩ J2 K2 hJ2 hK2
          have HJ2 := Lib.hid hJ2; have EW3 := Lib.hid hE; have HB := Lib.hid hb; have HSS := Lib.hid hs; have B9 := Lib.hid hB9
          have hz3 := EW3.out.size
          have hb9 := B9.out.lt
          obtain ⟨ρ, rfl, hρ⟩ := hF.open_
          simp only [List.forall_mem_cons] at hρ
          obtain ⟨r1, r4, r6, r8, r9, r21, r22, r23, r28, r29, r30, -⟩ := hρ
          simp only [lst, Nat.reduceAdd, r1, r4, r6, r8, r9, r21, r22, r23, r28, r29, r30]
          clear r1 r4 r6 r8 r9 r21 r22 r23 r28 r29 r30 hF hE hb hs hJ2 hB9
          by_cases hin : i < n2
          · have hiz : (i : Int) < (n2 : Int) := by omega
            obtain ⟨bx, ox, x, rfl, hx, -, hcellx⟩ := HS.out.at_ hin
            obtain ⟨y, hy⟩ : ∃ y, l[i]? = some y := ⟨_, List.getElem?_eq_getElem (by have := HLN.out; have := hn2.out; omega)⟩
            have ex : Ext w W3 := (E2.out.trans EW.out).trans EW3.out
            obtain ⟨c0, c1, c2, c3, c4⟩ := SlL.cells hcellx ex
            have e23 : Ext w2 W3 := EW.out.trans EW3.out
            obtain ⟨v0, v1, v2, v3, vf, vl⟩ := (BM.out.ext e23).c4
            have cy := (RM.out.ext e23).cell hy
            have cy2 := (RM.out.ext (e23.trans (Ext.al W3 (.cells #[.int .i64 x.number, .int .i64 x.seller, .int .i64 x.buyer, .int .i64 x.bales, .int .i64 x.price] 68)))).cell hy
            have cyf := (RM.out.ext e23).frozen
            have cyl := (RM.out.ext e23).lt
            obtain ⟨u0, u1, uf, ul⟩ := B9.out.c2
            have HB2 := Lib.hid (buys_snoc h hx hy); have HS2 := Lib.hid (sells_snoc h hx hy)
            have n1 : ¬ mb = W.heap.size := by omega
            have n2' : ¬ gm = W.heap.size := by omega
            have n3' : ¬ W3.heap.size = W.heap.size := by omega
            clear hx hy hcellx ex e23
            obtain ⟨p, hp⟩ : ∃ p, decide (0 < y) = p := ⟨_, rfl⟩
            obtain ⟨q, hq, hq2⟩ : ∃ q, decide (x.buyer = h) = q ∧ (x.buyer == h) = q := ⟨_, rfl, by cases hh : (x.buyer == h) <;> simp_all⟩
            obtain ⟨r, hr, hr2⟩ : ∃ q, decide (x.seller = h) = q ∧ (x.seller == h) = q := ⟨_, rfl, by cases hh : (x.seller == h) <;> simp_all⟩
            have HP := Lib.hid hp; have HQ1 := Lib.hid hq; have HR1 := Lib.hid hr
            cases p <;> cases q <;> cases r <;> cases b <;> cases s <;> (
              go_wp2
              exact Handed.intro (n2 - (i + 1)) (by omega) (HJ2.out _ _ _ ⟨i + 1, buysB ((c.sales.zip l).take (i + 1)) h, sellsB ((c.sales.zip l).take (i + 1)) h, by omega, Nat.le_refl _, ⟨rfl, rfl, by simp [Act.eval]⟩, by first | exact ((EW3.out.setCell (Nat.le_refl _) _).setCell (Nat.le_refl _) _).alloc _ | exact ((EW3.out.alloc _).setCell (Nat.le_refl _) _).setCell (Nat.le_refl _) _,
                by rw [HB2.out, HS2.out, HB.out, HSS.out, HP.out, HQ1.out, HR1.out]; first | exact ((B9.out.set_ 0 _).set_ 1 _).alloc _ | exact ((B9.out.alloc _).set_ 0 _).set_ 1 _, rfl, rfl⟩))
          · have HZ := Lib.hid (show (c.sales.zip l).take i = c.sales.zip l from zip_all (by have := hn2.out; omega))
            have HPB := Lib.hid (show passB c l h = (s && b) by unfold passB; rw [← HB.out, ← HSS.out, HZ.out])
            have hzW := EW.out.size
            obtain ⟨u0, u1, uf, ul⟩ := B9.out.c2
            have heq := fun w => eqBB s b w
            cases s <;> cases b
            · go_wp2
              exact Handed.intro (n - (kk + 1)) (by omega) (HJ.out _ _ _ ⟨kk + 1, A1, n1, d1, by omega, Nat.le_refl _, ⟨rfl, rfl, by simp [Act.eval]⟩, EW.out.trans EW3.out, by rw [HPS.out, HPB.out]; simpa using OW.out.ext EW3.out⟩)
            · go_wp2
              exact Handed.intro (n - (kk + 1)) (by omega) (HJ.out _ _ _ ⟨kk + 1, A1, n1, d1, by omega, Nat.le_refl _, ⟨rfl, rfl, by simp [Act.eval]⟩, EW.out.trans EW3.out, by rw [HPS.out, HPB.out]; simpa using OW.out.ext EW3.out⟩)
            · go_wp2
              exact Handed.intro (n - (kk + 1)) (by omega) (HJ.out _ _ _ ⟨kk + 1, A1, n1, d1, by omega, Nat.le_refl _, ⟨rfl, rfl, by simp [Act.eval]⟩, EW.out.trans EW3.out, by rw [HPS.out, HPB.out]; simpa using OW.out.ext EW3.out⟩)
            · obtain ⟨F, hF⟩ : ∃ F, F = (c.houses.take kk).filter (passB c l) := ⟨_, rfl⟩
              rw [← hF] at HPS OW
              have hFl : F.length ≤ kk := by rw [hF]; exact Nat.le_trans (List.length_filter_le _ _) (by rw [List.length_take]; omega)
              clear hF
              have OW3 := Lib.hid (OW.out.ext EW3.out)
              go_wp2_with (at_builtin; refine wpList_app encI 22 3 1 _ 8 Tryd.underlying22 info3x rfl (by decide) (by decide) (fun _ => rfl) encI_one rfl (.tmp 77) (.tmp 79) rfl w2.heap.size _ F rfl (OW3.out.alloc _) W3.heap.size 1 h rfl (cells1 (by simp [go_sem])) (by omega) (by simp; omega) ?_)
              intro g9 cap w9 hown hg9 hbel hgr
              have HO9 := Lib.hid hown
              have HB9 := Lib.hid (show Ext w2 w9 from Below.trans ((EW.out.trans EW3.out).alloc _) hbel)
              clear hown hbel hgr u0 u1 uf ul
              go_wp2
              exact Handed.intro (n - (kk + 1)) (by omega) (HJ.out _ _ _ ⟨kk + 1, _, _, _, by omega, Nat.le_refl _, ⟨rfl, rfl, by simp [Act.eval]; first | done | exact ⟨rfl, rfl, rfl⟩⟩, HB9.out, by rw [HPS.out, HPB.out]; exact HO9.out⟩)
      · have HE := Lib.hid (show kk = n by omega)
        go_wp2
        go_ret2
        refine ⟨⟨.slice A1 n1 d1, by rfl, ?_⟩, E2.out.trans EW.out⟩
        have := OW.out
        rw [List.take_of_length_le (by have := HE.out; have := hn.out; omega)] at this
        rw [HPL.out]
        exact this.sl (fun _ => rfl)
end Go.Proofs.YtafdbgielmlihaaDoor
/- The program's Hands, plain: where bales stay is counted in a map. -/
namespace Go.Proofs.YtafdbgielmlihaaDoor
open Go.RowKit Go.Shelf
set_option linter.unusedSimpArgs false

/-- A house's place. -/
theorem house_idx {c : Chn} (hR : Right c) {i : Nat} {t : Int} (hi : c.houses[i]? = some t) : houseI c t = i := by
  unfold houseI
  rcases idxF_cases (fun h => decide (h = t)) c.houses with ⟨-, h⟩ | ⟨k, x, e, hx, hp, -⟩
  · have := h t (List.mem_of_getElem? hi)
    simp at this
  · have hxt : x = t := of_decide_eq_true hp
    subst hxt
    rw [e]
    have hp := List.pairwise_iff_getElem.1 (rising_pair hR.hr)
    obtain ⟨h1, h2⟩ := List.getElem?_eq_some_iff.1 hi
    obtain ⟨h3, h4⟩ := List.getElem?_eq_some_iff.1 hx
    rcases Nat.lt_trichotomy k i with h | h | h
    · have := hp k i h3 h1 h; omega
    · rw [h]
    · have := hp i k h1 h3 h; omega
/-- So many bales of the house go on; a map counts where they stay. -/
def cntTo (c : Chn) (h : Int) (m : List Int) : Nat → List Int × (Int → Int)
  | 0 => (m, fun _ => 0)
  | k + 1 => ((follow c (cntTo c h m k).1 h).1, fun x => if x = (follow c (cntTo c h m k).1 h).2 then (cntTo c h m k).2 x + 1 else (cntTo c h m k).2 x)
theorem cnt_bd (c : Chn) (h : Int) (m : List Int) : ∀ (k : Nat) (x : Int), 0 ≤ (cntTo c h m k).2 x ∧ (cntTo c h m k).2 x ≤ k
  | 0, x => by simp [cntTo]
  | k + 1, x => by
    have := cnt_bd c h m k x
    rw [cntTo]
    dsimp only
    split <;> omega
theorem cnt_row {c : Chn} (hR : Right c) {h : Int} (hh : h ∈ c.houses) {m : List Int} (hm : Mvs c m) : ∀ k, (cntTo c h m k).1 = (handRow c h k (m, List.replicate c.houses.length 0)).1 ∧
    ∀ (i : Nat) (t : Int), c.houses[i]? = some t → (handRow c h k (m, List.replicate c.houses.length 0)).2[i]? = some ((cntTo c h m k).2 t)
  | 0 => ⟨rfl, fun i t hi => by
      have := (List.getElem?_eq_some_iff.1 hi).1
      rw [handRow, cntTo, List.getElem?_replicate, if_pos this]⟩
  | k + 1 => by
    obtain ⟨h1, h2⟩ := cnt_row hR hh hm k
    obtain ⟨h3, -, -⟩ := handRow_ok hR hh hm (B := 0) (row := List.replicate c.houses.length 0) (by simp) (rep_zero _) k
    have hfo := (follow_ok hR h3 hh).2
    have hlt := houseI_lt hfo
    refine ⟨by rw [cntTo, handRow, h1], fun i t hi => ?_⟩
    rw [handRow, cntTo, bump_get, h2 i t hi, h1, Option.map_some]
    congr 1
    have key : ((houseI c (follow c (handRow c h k (m, List.replicate c.houses.length 0)).1 h).2).toNat = i) ↔ t = (follow c (handRow c h k (m, List.replicate c.houses.length 0)).1 h).2 := by
      constructor
      · intro e
        exact house_inj (house_idx hR hi) (by omega)
      · intro e
        rw [← e, house_idx hR hi]
        omega
    simp only [key]
/-- What each house owes, when the first k of them have handed out all, and the next one j bales. -/
def OweAt (c : Chn) (gets : List Int) (k j : Nat) (g : Int → Int) : Prop := ∀ (i : Nat) (t x : Int), k ≤ i → c.houses[i]? = some t → gets[i]? = some x → g t = ((-x).toNat : Int) - (if i = k then (j : Int) else 0)
/-- .. and while the map is filled. -/
def OweTo (c : Chn) (gets : List Int) (k : Nat) (g : Int → Int) : Prop := ∀ (i : Nat) (t x : Int), c.houses[i]? = some t → gets[i]? = some x → g t = if i < k then ((-x).toNat : Int) else 0
theorem owe_start (c : Chn) (gets : List Int) : OweTo c gets 0 fun _ => 0 := fun i t x _ _ => by simp
theorem owe_put {c : Chn} (hR : Right c) {gets : List Int} {k : Nat} {g : Int → Int} {t x : Int} (h : OweTo c gets k g) (ht : c.houses[k]? = some t) (hx : gets[k]? = some x) (h0 : x < 0) : OweTo c gets (k + 1) (fun y => if y = t then -x else g y) := by
  intro i t' x' ht' hx'
  by_cases e : i = k
  · subst e
    rw [ht] at ht'; rw [hx] at hx'
    injection ht' with ht'; injection hx' with hx'
    subst ht' hx'
    simp only [if_true]
    rw [if_pos (by omega)]
    omega
  · have hne : t' ≠ t := fun e2 => e (by subst e2; have := house_idx hR ht'; have := house_idx hR ht; omega)
    simp only [if_neg hne]
    rw [h i t' x' ht' hx']
    by_cases h1 : i < k
    · rw [if_pos h1, if_pos (by omega)]
    · rw [if_neg h1, if_neg (by omega)]
theorem owe_skip {c : Chn} {gets : List Int} {k : Nat} {g : Int → Int} {x : Int} (h : OweTo c gets k g) (hx : gets[k]? = some x) (h0 : ¬ x < 0) : OweTo c gets (k + 1) g := by
  intro i t' x' ht' hx'
  rw [h i t' x' ht' hx']
  by_cases e : i = k
  · subst e
    rw [hx] at hx'
    injection hx' with hx'
    subst hx'
    rw [if_neg (by omega), if_pos (by omega)]
    omega
  · by_cases h1 : i < k
    · rw [if_pos h1, if_pos (by omega)]
    · rw [if_neg h1, if_neg (by omega)]
theorem owe_full {c : Chn} {gets : List Int} {k : Nat} {g : Int → Int} (h : OweTo c gets k g) (hk : c.houses.length ≤ k) : OweAt c gets 0 0 g := fun i t x _ ht hx => by
  have := (List.getElem?_eq_some_iff.1 ht).1
  rw [h i t x ht hx, if_pos (by omega)]
  split <;> simp
theorem owe_step {c : Chn} (hR : Right c) {gets : List Int} {k j : Nat} {g g' : Int → Int} {t : Int} (h : OweAt c gets k j g) (ht : c.houses[k]? = some t) (h1 : g' t = g t - 1) (h2 : ∀ y, y ≠ t → g' y = g y) : OweAt c gets k (j + 1) g' := by
  intro i t' x' hi ht' hx'
  by_cases e : i = k
  · subst e
    rw [ht] at ht'
    injection ht' with ht'
    subst ht'
    rw [h1, h i t x' hi ht hx', if_pos rfl, if_pos rfl]
    omega
  · have hne : t' ≠ t := fun e2 => e (by subst e2; have := house_idx hR ht'; have := house_idx hR ht; omega)
    rw [h2 t' hne, h i t' x' hi ht' hx', if_neg e, if_neg e]
theorem owe_next {c : Chn} {gets : List Int} {k j : Nat} {g : Int → Int} (h : OweAt c gets k j g) : OweAt c gets (k + 1) 0 g := by
  intro i t x hi ht hx
  rw [h i t x (by omega) ht hx, if_neg (by omega)]
  split <;> simp
end Go.Proofs.YtafdbgielmlihaaDoor
/- The program's on: a bale goes on by the first sale of its house that still moves one; it calls itself by a boxed variable. -/
namespace Go.Proofs.YtafdbgielmlihaaDoor
open Go.RowKit Go.Shelf Go.Lib
set_option maxRecDepth 100000
set_option linter.unusedSimpArgs false

/-- What the closure sees. -/
structure HopW (c : Chn) (b1 b4 b9 mb gm n2 cp2 N2 M2 : Nat) (A2 : Option Addr) (v1 hv' sv' cv' : Value) (m : List Int) (W : World) : Prop where
  ch : Blk W b1 25 #[v1, .slice A2 n2 cp2]
  mp : Blk W b4 109 #[.pointer (some ⟨mb, 0, none⟩)]
  mkt : Blk W mb 112 #[hv', sv', .slice (some ⟨gm, 0, none⟩) N2 M2, cv']
  fn : Blk W b9 118 #[.func (.func 80) #[] #[.pointer (some ⟨b1, 0, none⟩), .pointer (some ⟨b4, 0, none⟩), .pointer (some ⟨b9, 0, none⟩)]]
  row : RowI W gm m
  sl : SlL W (.slice A2 n2 cp2) c.sales
  x1 : b1 ≠ gm
  x4 : b4 ≠ gm
  xm : mb ≠ gm
  x9 : b9 ≠ gm
  xs : 0 < c.sales.length → ∀ b o, A2 = some ⟨b, o, none⟩ → b ≠ gm
section
variable {c : Chn} {b1 b4 b9 mb gm n2 cp2 N2 M2 : Nat} {A2 : Option Addr} {v1 hv' sv' cv' : Value} {m m' : List Int} {W W' : World}
theorem ne_some {a b : Nat} (h : a ≠ b) : some a ≠ some b := fun e => h (by injection e)
theorem HopW.grown (h : HopW c b1 b4 b9 mb gm n2 cp2 N2 M2 A2 v1 hv' sv' cv' m W) (k : W.grownBy W' (some gm)) (hr : RowI W' gm m') : HopW c b1 b4 b9 mb gm n2 cp2 N2 M2 A2 v1 hv' sv' cv' m' W' :=
  ⟨h.ch.grown k (ne_some h.x1), h.mp.grown k (ne_some h.x4), h.mkt.grown k (ne_some h.xm), h.fn.grown k (ne_some h.x9), hr, h.sl.grown k h.xs, h.x1, h.x4, h.xm, h.x9, h.xs⟩
theorem HopW.ext (h : HopW c b1 b4 b9 mb gm n2 cp2 N2 M2 A2 v1 hv' sv' cv' m W) (k : Ext W W') : HopW c b1 b4 b9 mb gm n2 cp2 N2 M2 A2 v1 hv' sv' cv' m W' :=
  h.grown (grown_ext (World.grownBy.refl _ _) k) (h.row.ext k)
end
set_option maxHeartbeats 4000000 in
theorem hop_any (c : Chn) {b1 b4 b9 mb gm n2 cp2 N2 M2 : Nat} {A2 : Option Addr} {v1 hv' sv' cv' : Value} (hl : c.sales.length ≤ 1000) (hN : N2 = c.sales.length) :
    ∀ (g : Nat) (m : List Int) (h : Int) (W : World), mu m ≤ g → Mvs c m → HopW c b1 b4 b9 mb gm n2 cp2 N2 M2 A2 v1 hv' sv' cv' m W →
      Calls Tryd.prog 80 #[.int .i64 h, .pointer (some ⟨b1, 0, none⟩), .pointer (some ⟨b4, 0, none⟩), .pointer (some ⟨b9, 0, none⟩)] W fun e W' => e = .returned (.int .i64 (follow c m h).2) ∧ W.grownBy W' (some gm) ∧ RowI W' gm (follow c m h).1 := by
  intro g
  induction g using Nat.strongRecOn with
  | ind g ih =>
    intro m h W hg hm hW
    have IH := Lib.hid ih; have HW := Lib.hid hW; have HM := Lib.hid hm; have HN := Lib.hid hN
    obtain ⟨A2', n2', cp2', e2, hn2, hlc2, hcm2⟩ := hW.sl.form
    injection e2 with e2 e3 e4
    subst e2 e3 e4
    have HN2 := Lib.hid (show N2 = n2 by have := hn2.out; omega)
    have hn2b : n2 ≤ 1000 := by have := hn2.out; omega
    obtain ⟨b0, b1', bf, bl⟩ := hW.ch.c2
    clear ih hW hm hN
    go_enter Tryd.func80, Tryd.ntmps80
    go_wp2
    go_step3
    go_wp2
    go_step3
    go_wp2
    clear b0 b1' bf bl
    refine wp_loop_ghost_k (fun gg A' V => ∃ (i : Nat), i ≤ n2 ∧ n2 - i ≤ gg ∧ Fr 45 [(0, .int .i64 h), (1, .pointer (some ⟨b1, 0, none⟩)), (2, .pointer (some ⟨b4, 0, none⟩)), (3, .pointer (some ⟨b9, 0, none⟩)), (9, .slice A2 n2 cp2), (10, .int .i64 (n2 : Int)), (11, .int .i64 (i : Int))] [] A' ∧
      Ext W V ∧ ((c.sales.zip m).take i).any (onB h) = false) n2 ?_ ?_
    · exact ⟨0, by omega, by omega, ⟨rfl, rfl, by simp [Act.eval]⟩, Ext.refl _, by simp⟩
    · rintro gg A' V ⟨i, hi, hgg, hF, hE, hany⟩ J K' hJ hK
      have HJ := Lib.hid hJ; have EV := Lib.hid hE; have HA := Lib.hid hany
      obtain ⟨ρ, rfl, hρ⟩ := hF.open_
      simp only [List.forall_mem_cons] at hρ
      obtain ⟨r0, r1, r2, r3, r9, r10, r11, -⟩ := hρ
      simp only [lst, Nat.reduceAdd, r0, r1, r2, r3, r9, r10, r11]
      clear r0 r1 r2 r3 r9 r10 r11 hF hE hany hJ
      have HV := Lib.hid (HW.out.ext EV.out)
      by_cases hin : i < n2
      · have hiz : (i : Int) < (n2 : Int) := by omega
        obtain ⟨bx, ox, x, rfl, hx, -, hcellx⟩ := HV.out.sl.at_ hin
        obtain ⟨y, hy⟩ : ∃ y, m[i]? = some y := ⟨_, List.getElem?_eq_getElem (by have := HM.out.l; have := hn2.out; omega)⟩
        obtain ⟨c0, c1, c2, c3, c4⟩ := SlL.cells hcellx (Ext.refl V)
        have hyb := HM.out.b y (List.mem_of_getElem? hy)
        obtain ⟨V2, hV2⟩ : ∃ V2, V2 = V.alloc (.cells #[.int .i64 x.number, .int .i64 x.seller, .int .i64 x.buyer, .int .i64 x.bales, .int .i64 x.price] 68) := ⟨_, rfl⟩
        have E2 := Lib.hid (show Ext V V2 from hV2 ▸ Ext.al _ _)
        have BX := Lib.hid (show Blk V2 V.heap.size 68 #[.int .i64 x.number, .int .i64 x.seller, .int .i64 x.buyer, .int .i64 x.bales, .int .i64 x.price] from hV2 ▸ Blk.new _ _ _)
        have HV2 := Lib.hid (HV.out.ext E2.out)
        obtain ⟨x0, x1, x2, x3, x4, xf, xl⟩ := BX.out.c5
        obtain ⟨m0, m1, m2, m3, mf, ml⟩ := HV2.out.mkt.c4
        obtain ⟨p0, pf, pl⟩ := HV2.out.mp.c1
        have cy := HV2.out.row.cell hy
        have cyf := HV2.out.row.frozen
        have cyl := HV2.out.row.lt
        have hiN : i < N2 := by have := HN2.out; omega
        have hiNz : (i : Int) < (N2 : Int) := by omega
        have HSN := Lib.hid (on_snoc (h := h) hx hy)
        have HX := Lib.hid hx; have HY := Lib.hid hy
        have HE2 := Lib.hid (EV.out.trans E2.out)
        subst hV2
        clear hcellx hx hy
        by_cases hs : x.seller = h
        · subst hs
          have HS := Lib.hid (rfl : x.seller = x.seller)
          by_cases h0 : y = 0
          · have h1 : (y == 0) = true := by simpa using h0
            have HA2 := Lib.hid (show ((c.sales.zip m).take (i + 1)).any (onB x.seller) = false by rw [HSN.out, HA.out, h0]; simp)
            have h2 : decide (y = 0) = true := decide_eq_true h0
            clear h0
            go_wp2
            exact Handed.intro (n2 - (i + 1)) (by omega) (HJ.out _ _ _ ⟨i + 1, by omega, Nat.le_refl _, ⟨rfl, rfl, by simp [Act.eval]⟩, HE2.out, HA2.out⟩)
          · have h1 : (y == 0) = false := by simpa using h0
            have hy0 : 0 < y := by omega
            have HO := Lib.hid (on_some HX.out HY.out HA.out HS.out hy0)
            have HST := Lib.hid (follow_step HO.out HX.out HY.out)
            have hmu := mu_set m i y HY.out hy0
            have hm2 : Mvs c (m.set i (y - 1)) := ⟨by rw [List.length_set]; exact HM.out.l, fun z hz => by
              rcases List.mem_or_eq_of_mem_set hz with hz | rfl
              · exact HM.out.b z hz
              · omega⟩
            have HM2 := Lib.hid hm2
            have hw1 : IntKind.i64.wrap (y - 1) = y - 1 := by rw [IntKind.wrap_i64]; omega
            have hgV := HV.out.row.lt
            have HG2 := Lib.hid (grown_set (grown_ext (World.grownBy.refl W (some gm)) EV.out) (p := ⟨gm, i, none⟩) (.inl rfl) (.int .i64 (y - 1)))
            have HG3 := Lib.hid (grown_ext HG2.out (Ext.al _ (.cells #[.int .i64 x.number, .int .i64 x.seller, .int .i64 x.buyer, .int .i64 x.bales, .int .i64 x.price] 68)))
            have HV3 := Lib.hid (HW.out.grown HG3.out ((HV.out.row.set i (y - 1)).alloc _))
            obtain ⟨q0, qf, ql⟩ := HV3.out.fn.c1
            have BX3 := Lib.hid (show Blk ((V.setCell ⟨gm, i, none⟩ (.int .i64 (y - 1))).alloc (.cells #[.int .i64 x.number, .int .i64 x.seller, .int .i64 x.buyer, .int .i64 x.bales, .int .i64 x.price] 68)) V.heap.size 68 #[.int .i64 x.number, .int .i64 x.seller, .int .i64 x.buyer, .int .i64 x.bales, .int .i64 x.price] from Blk.at_ (by simp))
            obtain ⟨z0, z1, z2, z3, z4, zf, zl⟩ := BX3.out.c5
            go_wp2_with fail
            refine (IH.out (mu (m.set i (y - 1))) (by omega) _ x.buyer _ (Nat.le_refl _) HM2.out HV3.out).mono ?_
            rintro e V5 ⟨rfl, hG5, hR5⟩
            have HG5 := Lib.hid (grown_tr HG3.out hG5); have HR5 := Lib.hid hR5
            clear hG5 hR5
            go_wp2
            try rw [Exit.noGoto_ret]
            go_ret
            rw [HST.out]
            exact ⟨rfl, HG5.out, HR5.out⟩
        · have hs1 : (x.seller == h) = false := by simpa using hs
          have HA2 := Lib.hid (show ((c.sales.zip m).take (i + 1)).any (onB h) = false by rw [HSN.out, HA.out]; simp [hs])
          go_wp2
          exact Handed.intro (n2 - (i + 1)) (by omega) (HJ.out _ _ _ ⟨i + 1, by omega, Nat.le_refl _, ⟨rfl, rfl, by simp [Act.eval]⟩, HE2.out, HA2.out⟩)
      · have HE := Lib.hid (show i = n2 by omega)
        have HST := Lib.hid (follow_stop (on_none (c := c) (m := m) (h := h) (i := i) (by have := HE.out; have := hn2.out; omega) HA.out))
        have HVR := Lib.hid HV.out.row
        go_wp2
        try rw [Exit.noGoto_ret]
        go_ret
        rw [HST.out]
        exact ⟨rfl, grown_ext (World.grownBy.refl _ _) EV.out, HVR.out⟩
end Go.Proofs.YtafdbgielmlihaaDoor
/- The program's Hands, part two: all bales of a house. -/
namespace Go.Proofs.YtafdbgielmlihaaDoor
open Go.RowKit Go.Shelf Go.Lib
set_option maxRecDepth 100000
set_option linter.unusedSimpArgs false

/-- Some blocks may turn. -/
structure OffB (S : Nat → Prop) (A B : World) : Prop where
  os : B.os = A.os
  tape : B.tape = A.tape
  output : B.output = A.output
  size : A.heap.size ≤ B.heap.size
  block : ∀ i, i < A.heap.size → ¬ S i → B.heap[i]? = A.heap[i]?
theorem OffB.refl (S : Nat → Prop) (A : World) : OffB S A A := ⟨rfl, rfl, rfl, Nat.le_refl _, fun _ _ _ => rfl⟩
theorem OffB.one {S : Nat → Prop} {g : Nat} {A B C : World} (h : OffB S A B) (k : B.grownBy C (some g)) (hg : S g) : OffB S A C :=
  ⟨k.os.trans h.os, k.tape.trans h.tape, k.output.trans h.output, Nat.le_trans h.size k.size, fun i hi hs => (k.block i (Nat.lt_of_lt_of_le hi h.size) (by
    intro e; injection e with e; exact hs (by rw [e]; exact hg))).trans (h.block i hi hs)⟩
theorem OffB.ext {S : Nat → Prop} {A B C : World} (h : OffB S A B) (k : Ext B C) : OffB S A C :=
  ⟨k.os.trans h.os, k.tape.trans h.tape, k.output.trans h.output, Nat.le_trans h.size k.size, fun i hi hs => (k.block i (Nat.lt_of_lt_of_le hi h.size)).trans (h.block i hi hs)⟩
theorem ext_off {S : Nat → Prop} {w A B : World} (h : Ext w A) (k : OffB S A B) (hs : ∀ i, i < w.heap.size → ¬ S i) : Ext w B where
  os := k.os.trans h.os
  tape := k.tape.trans h.tape
  output := k.output.trans h.output
  size := Nat.le_trans h.size k.size
  block := fun i hi => (k.block i (Nat.lt_of_lt_of_le hi h.size) (hs i hi)).trans (h.block i hi)
section
variable {W W' : World} {q : Nat}
def NoC (W : World) (q : Nat) : Prop := ¬ ∃ c t f, W.heap[q]? = some (.cells c t f)
theorem Blk.noC {g : Nat} {t : TypeId} {cs : Array Value} (h : Blk W g t cs) (k : NoC W q) : g ≠ q := fun e => k (by subst e; exact ⟨_, _, _, h⟩)
theorem Blk.offC {g : Nat} {t : TypeId} {cs : Array Value} (h : Blk W g t cs) (k : W.grownBy W' (some q)) (hq : NoC W q) : Blk W' g t cs := h.grown k (ne_some (h.noC hq))
theorem Sl.offC {α : Type} {enc : α → List Value} {sz : Nat} {a : Option Addr} {n c : Nat} {l : List α} (h : Sl enc sz W (.slice a n c) l) (k : W.grownBy W' (some q)) (hq : NoC W q) : Sl enc sz W' (.slice a n c) l := by
  obtain ⟨a', c', hv, hl, hc, hcell⟩ := h
  injection hv with e1 e2 e3
  subst e1 e2 e3
  refine ⟨_, _, rfl, hl, hc, fun h0 => ?_⟩
  obtain ⟨b, off, hA, hb, hcell⟩ := hcell h0
  refine ⟨b, off, hA, Nat.lt_of_lt_of_le hb k.size, fun i x hi j u hu => ?_⟩
  have h1 := hcell i x hi j u hu
  obtain ⟨h2, h3⟩ := is_cells h1
  exact (World.cell?_of_block (a := ⟨b, _, none⟩) (k.block b h2 (ne_some fun e => hq (by subst e; exact h3)))).trans h1
theorem own_offC {α : Type} {enc : α → List Value} {e : TypeId} {sz base : Nat} {v : Value} {l : List α} (h : Own enc e sz W base v l) (k : W.grownBy W' (some q)) (hq : NoC W q) : Own enc e sz W' base v l := by
  refine ⟨h.1, ?_⟩
  rcases h.2 with h2 | ⟨g, cap, cur, e1, hb, hg, h5⟩
  · exact .inl h2
  · exact .inr ⟨g, cap, cur, e1, hb, Blk.offC hg k hq, h5⟩
theorem MapI.noC {m n : Nat} {g : Int → Int} (h : MapI W m n g) : NoC W m := h.noCells
theorem MapI.grown {m n r : Nat} {g : Int → Int} (h : MapI W m n g) (k : W.grownBy W' (some r)) (hr : m ≠ r) : MapI W' m n g := h.at_ (k.block m h.lt (ne_some hr))
end
theorem HopW.offC {c : Chn} {b1 b4 b9 mb gm n2 cp2 N2 M2 : Nat} {A2 : Option Addr} {v1 hv' sv' cv' : Value} {m : List Int} {W W' : World} {q : Nat} (h : HopW c b1 b4 b9 mb gm n2 cp2 N2 M2 A2 v1 hv' sv' cv' m W) (k : W.grownBy W' (some q)) (hq : NoC W q) : HopW c b1 b4 b9 mb gm n2 cp2 N2 M2 A2 v1 hv' sv' cv' m W' :=
  ⟨h.ch.offC k hq, h.mp.offC k hq, h.mkt.offC k hq, h.fn.offC k hq, Blk.offC h.row k hq, h.sl.offC k hq, h.x1, h.x4, h.xm, h.x9, h.xs⟩

set_option maxHeartbeats 8000000 in
theorem bales4_wp {c : Chn} {m0 gets : List Int} {k K : Nat} {h0 g0 : Int} {b1 b4 b9 mb gm n2 cp2 N2 M2 bm bo nn : Nat} {A2 : Option Addr} {v1 hv' sv' cv' : Value} {f0 : Int → Int} {w : World} {a0 : Act} {v10 v51 v52 v53 : Value} {Q : Exit → Act → World → Prop}
    (hR : Right c) (hl : c.sales.length ≤ 1000) (hN : N2 = c.sales.length) (hh0 : c.houses[k]? = some h0) (hg0 : gets[k]? = some g0) (hK : K = (-g0).toNat) (hKb : K ≤ 1000) (hm : Mvs c m0)
    (hF : Fr 103 [(1, .pointer (some ⟨b1, 0, none⟩)), (4, .pointer (some ⟨b4, 0, none⟩)), (6, .map (some bo)), (9, .pointer (some ⟨b9, 0, none⟩)), (10, v10), (12, .int .i64 h0), (13, .map (some bm)), (51, v51), (52, v52), (53, v53)] [] a0)
    (hW : HopW c b1 b4 b9 mb gm n2 cp2 N2 M2 A2 v1 hv' sv' cv' m0 w) (hM : MapI w bm 0 fun _ => 0) (hO : MapI w bo nn f0) (hOA : OweAt c gets k 0 f0) (hnn : nn ≤ 1000000) (xb : bo ≠ bm)
    (hQ : ∀ A' W' f, Fr 103 [(1, .pointer (some ⟨b1, 0, none⟩)), (4, .pointer (some ⟨b4, 0, none⟩)), (6, .map (some bo)), (9, .pointer (some ⟨b9, 0, none⟩)), (10, v10), (12, .int .i64 h0), (13, .map (some bm)), (51, v51), (52, v52), (53, v53)] [] A' →
      OffB (fun i => i = gm ∨ i = bm ∨ i = bo) w W' → HopW c b1 b4 b9 mb gm n2 cp2 N2 M2 A2 v1 hv' sv' cv' (cntTo c h0 m0 K).1 W' → MapI W' bm K (cntTo c h0 m0 K).2 → MapI W' bo (nn + K) f → OweAt c gets (k + 1) 0 f → Q .normal A' W') :
    (subC [1, 1, 1, 1, 1, 1, 1, 1, 0, 1, 2, 3, 1, 1, 0, 2, 1, 1, 0] (Tryd.f30.body.getD .skip)).wp Tryd.prog Q a0 w := by
  have HR := Lib.hid hR; have HW := Lib.hid hW; have HMM := Lib.hid hM; have HOO := Lib.hid hO; have HOA := Lib.hid hOA; have HQ := Lib.hid hQ; have HN := Lib.hid hN; have HM := Lib.hid hm; have HH0 := Lib.hid hh0; have HG0 := Lib.hid hg0; have HK := Lib.hid hK
  have h0b : In64 h0 := by have := rising_gt hR.hr h0 (List.mem_of_getElem? hh0); unfold In64; omega
  have HHM := Lib.hid (List.mem_of_getElem? hh0)
  clear hR hW hM hO hOA hQ hN hm hh0 hg0 hK
  delta Tryd.f30
  simp only [subC, Option.getD_some]
  obtain ⟨ρ, rfl, hρ⟩ := hF.open_
  simp only [List.forall_mem_cons] at hρ
  obtain ⟨r1, r4, r6, r9, r10, r12, r13, r51, r52, r53, -⟩ := hρ
  simp only [lst, Nat.reduceAdd, r1, r4, r6, r9, r10, r12, r13, r51, r52, r53]
  clear r1 r4 r6 r9 r10 r12 r13 r51 r52 r53 hF
  go_wp2
  refine wp_loop_ghost_k (fun g A' W => ∃ (j : Nat) (f : Int → Int), j ≤ K ∧ K - j ≤ g ∧ Fr 103 [(1, .pointer (some ⟨b1, 0, none⟩)), (4, .pointer (some ⟨b4, 0, none⟩)), (6, .map (some bo)), (9, .pointer (some ⟨b9, 0, none⟩)), (10, v10), (12, .int .i64 h0), (13, .map (some bm)), (51, v51), (52, v52), (53, v53)] [] A' ∧
    OffB (fun i => i = gm ∨ i = bm ∨ i = bo) w W ∧ HopW c b1 b4 b9 mb gm n2 cp2 N2 M2 A2 v1 hv' sv' cv' (cntTo c h0 m0 j).1 W ∧ MapI W bm j (cntTo c h0 m0 j).2 ∧ MapI W bo (nn + j) f ∧ OweAt c gets k j f) K ?_ ?_
  · exact ⟨0, f0, by omega, by omega, ⟨rfl, rfl, by simp [Act.eval]⟩, OffB.refl _ _, HW.out, HMM.out, HOO.out, HOA.out⟩
  · rintro g A' W ⟨j, f, hj, hg, hF, hOff, hW, hM, hO, hOA⟩ J K' hJ hK'
    have HJ := Lib.hid hJ; have HOF := Lib.hid hOff; have HW1 := Lib.hid hW; have HM1 := Lib.hid hM; have HO1 := Lib.hid hO; have HOA1 := Lib.hid hOA
    obtain ⟨ρ, rfl, hρ⟩ := hF.open_
    simp only [List.forall_mem_cons] at hρ
    obtain ⟨r1, r4, r6, r9, r10, r12, r13, r51, r52, r53, -⟩ := hρ
    simp only [lst, Nat.reduceAdd, r1, r4, r6, r9, r10, r12, r13, r51, r52, r53]
    clear r1 r4 r6 r9 r10 r12 r13 r51 r52 r53 hF hOff hW hM hO hOA hJ HW HMM HOO HOA
    have hf0 : f h0 = (K : Int) - j := by
      have := HOA1.out k h0 g0 (Nat.le_refl _) HH0.out HG0.out
      rw [if_pos rfl, ← HK.out] at this
      exact this
    have l0 := HO1.out.look h0b
    rw [hf0] at l0
    by_cases hjK : j < K
    · have hz : 0 < (K : Int) - j := by omega
      obtain ⟨hc1, -⟩ := cnt_row HR.out HHM.out HM.out j
      obtain ⟨ho1, -, -⟩ := handRow_ok HR.out HHM.out HM.out (B := 0) (row := List.replicate c.houses.length 0) (by simp) (rep_zero _) j
      rw [← hc1] at ho1
      have HMJ := Lib.hid ho1
      have hfo := (follow_ok HR.out ho1 HHM.out).2
      have hrb := rising_gt HR.out.hr _ hfo
      have hkb : In64 (follow c (cntTo c h0 m0 j).1 h0).2 := by unfold In64; omega
      have hcb := cnt_bd c h0 m0 j (follow c (cntTo c h0 m0 j).1 h0).2
      obtain ⟨cc, hcc⟩ : ∃ cc, (cntTo c h0 m0 j).2 (follow c (cntTo c h0 m0 j).1 h0).2 = cc := ⟨_, rfl⟩
      rw [hcc] at hcb
      have HCC := Lib.hid hcc
      obtain ⟨q0, qf, ql⟩ := HW1.out.fn.c1
      have NGM := Lib.hid (Blk.noC HW1.out.row HM1.out.noC); have NGO := Lib.hid (Blk.noC HW1.out.row HO1.out.noC)
      clear hc1 ho1 hfo hrb hcc
      go_wp2_with fail
      refine (hop_any c hl HN.out (mu (cntTo c h0 m0 j).1) (cntTo c h0 m0 j).1 h0 W (Nat.le_refl _) HMJ.out HW1.out).mono ?_
      rintro e W1 ⟨rfl, hG1, hR1⟩
      have hMa := HM1.out.grown hG1 (Ne.symm NGM.out)
      have hOa := HO1.out.grown hG1 (Ne.symm NGO.out)
      have hWa := HW1.out.grown hG1 hR1
      have l1 := hMa.look hkb
      rw [HCC.out] at l1
      have hw1 : IntKind.i64.wrap (cc + 1) = cc + 1 := by rw [IntKind.wrap_i64]; omega
      obtain ⟨W2, s2, hMb, hG2⟩ := hMa.store hkb (by omega) (v := cc + 1) (by unfold In64; omega)
      have hOb := hOa.grown hG2 xb
      have hWb := hWa.offC hG2 hMa.noC
      have l2 := hOb.look h0b
      rw [hf0] at l2
      obtain ⟨r, hr⟩ : ∃ r : Int, (K : Int) - j - 1 = r := ⟨_, rfl⟩
      have hw2 : IntKind.i64.wrap ((K : Int) - j - 1) = r := by rw [IntKind.wrap_i64]; omega
      obtain ⟨W3, s3, hOc, hG3⟩ := hOb.store h0b (by omega) (v := r) (by unfold In64; omega)
      have hMc := hMb.grown hG3 (Ne.symm xb)
      have hWc := hWb.offC hG3 hOb.noC
      have l3 := hOc.look h0b
      rw [if_pos rfl] at l3
      have HOFc := Lib.hid (((HOF.out.one hG1 (.inl rfl)).one hG2 (.inr (.inl rfl))).one hG3 (.inr (.inr rfl)))
      have HMc := Lib.hid hMc; have HOc := Lib.hid hOc; have HWc := Lib.hid hWc
      have HST := Lib.hid (owe_step HR.out HOA1.out HH0.out (g' := fun x => if x = h0 then r else f x) (by simp; omega) (fun y hy => by simp [hy]))
      have HCN : (cntTo c h0 m0 (j + 1)).2 = fun x => if x = (follow c (cntTo c h0 m0 j).1 h0).2 then cc + 1 else (cntTo c h0 m0 j).2 x := by
        rw [cntTo]
        funext x
        dsimp only
        split
        · rename_i e; rw [e, HCC.out]
        · rfl
      have HCN2 := Lib.hid HCN
      clear hMa hOa hWa hMb hOb hWb hMc hOc hWc hG1 hG2 hG3 hR1 q0 qf ql HCN
      have HRR := Lib.hid hr
      clear hr
      by_cases hlast : r = 0
      · subst hlast
        obtain ⟨W4, s4, hOd, hG4⟩ := HOc.out.drop h0b 0
        have HOFd := Lib.hid (HOFc.out.one hG4 (.inr (.inr rfl))); have HMd := Lib.hid (HMc.out.grown hG4 (Ne.symm xb)); have HOd := Lib.hid hOd; have HWd := Lib.hid (HWc.out.offC hG4 HOc.out.noC)
        have HST2 := Lib.hid (owe_step HR.out HOA1.out HH0.out (g' := fun x => if x = h0 then 0 else if x = h0 then 0 else f x) (by have := HRR.out; simp; omega) (fun y hy => by simp [hy]))
        clear hOd hG4
        go_wp2
        exact Handed.intro (K - (j + 1)) (by omega) (HJ.out _ _ _ ⟨j + 1, _, by omega, Nat.le_refl _, ⟨rfl, rfl, by simp [Act.eval]⟩, HOFd.out, HWd.out, by rw [HCN2.out]; exact HMd.out, HOd.out, HST2.out⟩)
      · have hl1 : (r == 0) = false := by simpa using hlast
        go_wp2
        exact Handed.intro (K - (j + 1)) (by omega) (HJ.out _ _ _ ⟨j + 1, _, by omega, Nat.le_refl _, ⟨rfl, rfl, by simp [Act.eval]⟩, HOFc.out, HWc.out, by rw [HCN2.out]; exact HMc.out, HOc.out, HST.out⟩)
    · have hz : ¬ 0 < (K : Int) - j := by omega
      have HE := Lib.hid (show j = K by omega)
      go_wp2
      have h1 := HW1.out; have h2 := HM1.out; have h3 := HO1.out
      rw [HE.out] at h1 h2 h3
      exact HQ.out _ _ _ ⟨rfl, rfl, by simp [Act.eval]⟩ HOF.out h1 h2 h3 (owe_next HOA1.out)
end Go.Proofs.YtafdbgielmlihaaDoor
/- The program's Hands, part three: what a house hands out is put out. -/
namespace Go.Proofs.YtafdbgielmlihaaDoor
open Go.RowKit Go.Shelf Go.Lib
set_option maxRecDepth 100000
set_option linter.unusedSimpArgs false

theorem und99 : Tryd.prog.underlying 99 = some (.struct (Tryd.prog.fieldsOf 99)) := by kernel_rfl
theorem held99 : Tryd.prog.stoodInHeld 99 = false := by kernel_rfl
theorem neq99h (a b x : Int) (w : World) : (binOp .neq 99 (.agg #[.int .i64 a, .int .i64 b, .int .i64 x]) (.agg #[.int .i64 a, .int .i64 b, .int .i64 0])).run Tryd.prog w = .ok (.bool (!(x == 0))) w := by
  have u3 := Tryd.underlying3
  have a3 := Tryd.isAgg3
  have z3 := Tryd.sizeOf3
  rw [run_neq_struct, show (10000 : Nat) = 9999 + 1 from rfl, run_equalIn_agg w 9999 99 _ _ und99 held99]
  simp only [Program.fieldsOf, Tryd.underlying99]
  go_simp
  by_cases h : x = 0
  · subst h; rfl
  · rw [if_neg h, show (x == 0) = false by simpa using h]; rfl
theorem own_neC {α : Type} {enc : α → List Value} {sz base q : Nat} {e : TypeId} {W : World} {v : Value} {l : List α} (h : Own enc e sz W base v l) (hq : NoC W q) : some q ≠ v.ownBlock := by
  rcases h.2 with ⟨rfl, -⟩ | ⟨g, cap, cur, e1, hb, hg, h5⟩
  · simp [Value.ownBlock]
  · subst e1
    intro hk
    have : q = g := by simpa [Value.ownBlock] using hk
    exact hq ⟨_, _, _, this ▸ hg⟩
theorem MapI.alloc {W : World} {m n : Nat} {g : Int → Int} (h : MapI W m n g) (o : Obj) : MapI (W.alloc o) m n g := h.ext (Ext.al _ _)
set_option maxHeartbeats 4000000 in
theorem outp6_wp {c : Chn} {row : List Int} {cnt : Int → Int} {out0 : List Hnd} {h0 : Int} {b1 bm K B : Nat} {A : Option Addr} {n cp : Nat} {v2 : Value} {A0 : Option Addr} {n0 d0 : Nat} {w : World} {a0 : Act} {v4 v6 v9 v51 v52 v53 : Value} {Q : Exit → Act → World → Prop}
    (hR : Right c) (hn : n = c.houses.length) (hn6 : n ≤ 6) (hol : out0.length ≤ 1000) (hBw : B ≤ w.heap.size) (hb3 : b1 < B) (hcb : ∀ t, 0 ≤ cnt t) (hrow : ∀ (i : Nat) (t : Int), c.houses[i]? = some t → row[i]? = some (cnt t))
    (hF : Fr 103 [(1, .pointer (some ⟨b1, 0, none⟩)), (4, v4), (6, v6), (9, v9), (10, .slice A0 n0 d0), (12, .int .i64 h0), (13, .map (some bm)), (51, v51), (52, v52), (53, v53), (79, .slice A n cp), (80, .int .i64 (n : Int)), (81, .int .i64 0)] [] a0)
    (hB : Blk w b1 25 #[.slice A n cp, v2]) (hh : SlI w (.slice A n cp) c.houses) (hhB : 0 < c.houses.length → ∀ b o, A = some ⟨b, o, none⟩ → b < B) (hM : MapI w bm K cnt) (hO : Own encHd 99 3 w B (.slice A0 n0 d0) out0)
    (hQ : ∀ A' W' A1 n1 d1, Fr 103 [(1, .pointer (some ⟨b1, 0, none⟩)), (4, v4), (6, v6), (9, v9), (10, .slice A1 n1 d1), (51, v51), (52, v52), (53, v53)] [] A' →
      Below B w W' → Own encHd 99 3 W' B (.slice A1 n1 d1) (out0 ++ outRow c h0 row) → Q .normal A' W') :
    (subC [1, 1, 1, 1, 1, 1, 1, 1, 0, 1, 2, 3, 1, 1, 0, 2, 1, 1, 1, 1] (Tryd.f30.body.getD .skip)).wp Tryd.prog Q a0 w := by
  have HB := Lib.hid hB; have HH := Lib.hid hh; have HHB := Lib.hid hhB; have HM := Lib.hid hM; have HO := Lib.hid hO; have HQ := Lib.hid hQ; have HN := Lib.hid hn; have HR := Lib.hid hR; have HCB := Lib.hid hcb; have HROW := Lib.hid hrow
  clear hB hh hhB hM hO hQ hn hR hcb hrow
  have nq := neq99h
  delta Tryd.f30
  simp only [subC, Option.getD_some]
  obtain ⟨ρ, rfl, hρ⟩ := hF.open_
  simp only [List.forall_mem_cons] at hρ
  obtain ⟨r1, r4, r6, r9, r10, r12, r13, r51, r52, r53, r79, r80, r81, -⟩ := hρ
  simp only [lst, Nat.reduceAdd, r1, r4, r6, r9, r10, r12, r13, r51, r52, r53, r79, r80, r81]
  clear r1 r4 r6 r9 r10 r12 r13 r51 r52 r53 r79 r80 r81 hF
  go_wp2
  refine wp_loop_ghost_k (fun g A' W => ∃ (k : Nat) (A1 : Option Addr) (n1 d1 : Nat), k ≤ n ∧ n - k ≤ g ∧ Fr 103 [(1, .pointer (some ⟨b1, 0, none⟩)), (4, v4), (6, v6), (9, v9), (10, .slice A1 n1 d1), (12, .int .i64 h0), (13, .map (some bm)), (51, v51), (52, v52), (53, v53), (79, .slice A n cp), (80, .int .i64 (n : Int)), (81, .int .i64 (k : Int))] [] A' ∧
    Below B w W ∧ MapI W bm K cnt ∧ Own encHd 99 3 W B (.slice A1 n1 d1) (out0 ++ outTo c h0 row k)) n ?_ ?_
  · exact ⟨0, A0, n0, d0, by omega, by omega, ⟨rfl, rfl, by simp [Act.eval]⟩, Below.refl _ _, HM.out, by simpa [outTo] using HO.out⟩
  · rintro g A' W ⟨k, A1, n1, d1, hk, hg, hF, hE, hM, hO⟩ J K' hJ hK
    have HJ := Lib.hid hJ; have EW := Lib.hid hE; have MW := Lib.hid hM; have OW := Lib.hid hO
    obtain ⟨ρ, rfl, hρ⟩ := hF.open_
    simp only [List.forall_mem_cons] at hρ
    obtain ⟨r1, r4, r6, r9, r10, r12, r13, r51, r52, r53, r79, r80, r81, -⟩ := hρ
    simp only [lst, Nat.reduceAdd, r1, r4, r6, r9, r10, r12, r13, r51, r52, r53, r79, r80, r81]
    clear r1 r4 r6 r9 r10 r12 r13 r51 r52 r53 r79 r80 r81 hF hE hM hO hJ
    have hz := EW.out.size
    by_cases hkn : k < n
    · have hkz : (k : Int) < (n : Int) := by omega
      have HHW := Lib.hid (HH.out.below EW.out HHB.out)
      obtain ⟨bh, oh, th, rfl, hth, -, hcell⟩ := HHW.out.at_ hkn
      have ch := SlI.cell hcell (Ext.refl _)
      obtain ⟨y, hyc⟩ : ∃ y, cnt th = y := ⟨_, rfl⟩
      have hy := HROW.out k th hth
      have hy0 := HCB.out th
      rw [hyc] at hy hy0
      have hkb : In64 th := by have := rising_gt HR.out.hr th (List.mem_of_getElem? hth); unfold In64; omega
      have HST := Lib.hid (outTo_succ (h := h0) hth hy)
      have hlk := MW.out.look hkb
      rw [hyc] at hlk
      obtain ⟨b0, b1', bf, bl⟩ := (show Blk W b1 _ _ from (EW.out.block b1 hb3).trans HB.out).c2
      have hlen := outTo_len c h0 row k
      clear hcell hth hy hyc
      by_cases h0y : y = 0
      · subst h0y
        go_wp2
        exact Handed.intro (n - (k + 1)) (by omega) (HJ.out _ _ _ ⟨k + 1, A1, n1, d1, by omega, Nat.le_refl _, ⟨rfl, rfl, by simp [Act.eval]⟩, EW.out.alloc (by omega) _, MW.out.alloc _, by rw [HST.out, if_neg (by omega), List.append_nil]; exact OW.out.alloc _⟩)
      · have h1 : (y == 0) = false := by simpa using h0y
        have HYP := Lib.hid (show 0 < y by omega)
        go_wp2_with (at_builtin; refine wpList_app encHd 41 99 3 _ 24 Tryd.underlying41 info99x rfl (by decide) (by decide) (fun _ => rfl) encHd_1 rfl (.tmp 96) (.tmp 98) rfl B _ (out0 ++ outTo c h0 row k) rfl ((OW.out.alloc _).alloc _) (W.heap.size + 1) 1 ⟨h0, th, y⟩ rfl (cells3h (by simp [go_sem]) (by simp [go_sem]) (by simp [go_sem])) (by simp; omega) (by simp; omega) ?_)
        intro g9 cap w9 hown hg9 hbel hgr
        have HO9 := Lib.hid hown
        have HE9 := Lib.hid (show Below B w w9 from ((EW.out.alloc (by omega) _).alloc (by simp; omega) _).trans hbel)
        have HM9 := Lib.hid (show MapI w9 bm K cnt from ((MW.out.alloc _).alloc _).at_ (hgr.block bm (by have := MW.out.lt; simp; omega) (own_neC OW.out MW.out.noC)))
        clear hown hbel hgr b0 b1' bf bl ch hlk
        go_wp2
        exact Handed.intro (n - (k + 1)) (by omega) (HJ.out _ _ _ ⟨k + 1, _, _, _, by omega, Nat.le_refl _, ⟨rfl, rfl, by simp [Act.eval]; first | done | exact ⟨rfl, rfl, rfl⟩⟩, HE9.out, HM9.out, by rw [HST.out, if_pos HYP.out]; exact HO9.out⟩)
    · have HE := Lib.hid (show k = n by omega)
      go_wp2
      have ho := OW.out
      rw [outTo_all (by have := HE.out; have := HN.out; omega)] at ho
      exact HQ.out _ _ A1 n1 d1 ⟨rfl, rfl, by simp [Act.eval]⟩ EW.out ho
end Go.Proofs.YtafdbgielmlihaaDoor
/- The reference's Hands, whole. -/
namespace Go.Proofs.YtafdbgielmlihaaDoor
open Go.RowKit Go.Shelf Go.Lib
set_option maxRecDepth 100000
set_option linter.unusedSimpArgs false

/-- What is handed, and an error. -/
def HandE (l : List Hnd) (E : Int) (w : World) (e : Ending) (w' : World) : Prop := (∃ v, e = .returned (.tuple #[v, .int .i64 E]) ∧ Sl encHd 3 w' v l) ∧ Ext w w'
end Go.Proofs.YtafdbgielmlihaaDoor
