/- Range: the reference's. -/
import Derived.Test.YtafdbgielmlihaaDoorPkChHandsCardB
import Derived.Test.YtafdbgielmlihaaDoorPkChProvesCardB
import Derived.Laws.ResultCell
import Derived.Test.YtafdbgielmlihaaDoorPkChTellsCardN
import Derived.Test.YtafdbgielmlihaaDoorPkChProvesCardA
import Derived.Test.YtafdbgielmlihaaDoorPkChHandsCardF
namespace Go.Proofs.YtafdbgielmlihaaDoor
open Go.RowKit Go.Shelf Go.Lib
set_option maxRecDepth 100000
set_option linter.unusedSimpArgs false

def rangeE (c : Chn) (x : Int) : Int := if checkP c then (if 0 ≤ saleI c x then 0 else 61) else 60
/-- How many bales move by a sale. -/
def RangeOf (c : Chn) (x lo hi : Int) : Prop := (rangeE c x = 0 → IsRange c 1 (saleI c x).toNat lo ∧ IsRange c (-1) (saleI c x).toNat hi) ∧ (rangeE c x ≠ 0 → lo = 0 ∧ hi = 0)
theorem rangeOf_exists (c : Chn) (x : Int) : ∃ lo hi, RangeOf c x lo hi := by
  by_cases h : rangeE c x = 0
  · have hc : checkP c = true := by
      cases hc : checkP c with
      | true => rfl
      | false => unfold rangeE at h; rw [hc] at h; simp at h
    obtain ⟨lo, h1⟩ := range_exists (check_right hc).1 1 (saleI c x).toNat
    obtain ⟨hi, h2⟩ := range_exists (check_right hc).1 (-1) (saleI c x).toNat
    exact ⟨lo, hi, fun _ => ⟨h1, h2⟩, fun h' => absurd h h'⟩
  · exact ⟨0, 0, fun h' => absurd h' h, fun _ => ⟨rfl, rfl⟩⟩
/-- A span, and an error. -/
def SpanE (lo hi E : Int) (w : World) (e : Ending) (w' : World) : Prop := e = .returned (.tuple #[.agg #[.int .i64 lo, .int .i64 hi], .int .i64 E]) ∧ Ext w w'
theorem ret_span {fn : Func} (hf : fn.results = #[.cell 4 48, .tmp 5]) {R : Ending → World → Prop} {a : Act} {V : World} {g : Nat} {x0 x1 y0 y1 : Value} {E : Int} (hB : Blk V g 48 #[x0, x1]) (h4 : a.tmps.getD 4 undef = .pointer (some ⟨g, 0, none⟩)) (h5 : a.tmps.getD 5 undef = .int .i64 E) (hd : a.defers = [])
    (hR : ∀ W, V.grownBy W (some g) → R (.returned (.tuple #[.agg #[y0, y1], .int .i64 E])) W) : bodyPost Tryd.prog fn R .ret a ((V.setCell ⟨g, 0, none⟩ y0).setCell ⟨g, 1, none⟩ y1) := by
  have H := (hB.set_ 0 y0).set_ 1 y1
  have H2 : Blk ((V.setCell ⟨g, 0, none⟩ y0).setCell ⟨g, 1, none⟩ y1) g 48 #[y0, y1] := by simpa using H
  have G : V.grownBy ((V.setCell ⟨g, 0, none⟩ y0).setCell ⟨g, 1, none⟩ y1) (some g) := grown_set (grown_set (World.grownBy.refl _ _) (p := ⟨g, 0, none⟩) (.inl rfl) y0) (p := ⟨g, 1, none⟩) (.inl rfl) y1
  generalize (V.setCell ⟨g, 0, none⟩ y0).setCell ⟨g, 1, none⟩ y1 = W at H2 G ⊢
  obtain ⟨e0, e1, -, -⟩ := H2.c2
  refine bodyPost_ret (v := .tuple #[.agg #[y0, y1], .int .i64 E]) ?_ hd (hR W G)
  rw [results_cell_tmp hf, h4, h5]
  go_simp
/-- The rows while they are filled. -/
def fillT (N i : Nat) : List Int := List.replicate i 1000 ++ List.replicate (N - i) 0
theorem fillT_zero (N : Nat) : fillT N 0 = List.replicate N 0 := by simp [fillT]
theorem fillT_full (N : Nat) : fillT N N = List.replicate N 1000 := by simp [fillT]
theorem fillT_len {N i : Nat} (h : i ≤ N) : (fillT N i).length = N := by simp [fillT]; omega
theorem fillT_step {N i : Nat} (h : i < N) : (fillT N i).set i 1000 = fillT N (i + 1) := by
  unfold fillT
  rw [List.set_append_right _ _ (by simp), List.length_replicate, Nat.sub_self]
  rw [show N - i = (N - (i + 1)) + 1 by omega, List.replicate_succ, List.set_cons_zero, List.replicate_succ', List.append_assoc]
  rfl
theorem ks_eq {N a : Nat} {e : Int} (ha : a < N) : ∀ (i : Nat) (y : Int), ((List.replicate N (1000 : Int)).set a (1000 + e))[i]? = some y → y = refR e a i := by
  intro i y h
  rw [List.getElem?_set, List.length_replicate] at h
  unfold refR
  by_cases hi : a = i
  · subst hi
    rw [if_pos rfl, if_pos ha] at h
    injection h with h
    rw [if_pos rfl]; exact h.symm
  · rw [if_neg hi, List.getElem?_replicate] at h
    rw [if_neg (Ne.symm hi)]
    split at h
    · injection h with h; rw [← h]; rfl
    · cases h
/-- A list in new memory whose a-th number is known. -/
def HasA (B a : Nat) (x : Int) (v : Value) (W : World) : Prop := ∃ gm n cm, v = .slice (some ⟨gm, 0, none⟩) n cm ∧ a < n ∧ B ≤ gm ∧ gm < W.heap.size ∧ W.cell? ⟨gm, a, none⟩ = some (.int .i64 x)
theorem HasA.grown {B a g : Nat} {x : Int} {v : Value} {W W' : World} (h : HasA B a x v W) (k : W.grownBy W' (some g)) (hg : g < B) : HasA B a x v W' := by
  obtain ⟨gm, n, cm, h1, h2, h3, h4, h5⟩ := h
  exact ⟨gm, n, cm, h1, h2, h3, Nat.lt_of_lt_of_le h4 k.size, (World.cell?_of_block (a := ⟨gm, a, none⟩) (k.block gm h4 (by intro e; injection e with e; omega))).trans h5⟩
def PtrA (B a : Nat) (x : Int) (v : Value) (W : World) : Prop := ∃ gm, v = .pointer (some ⟨gm, a, none⟩) ∧ B ≤ gm ∧ gm < W.heap.size ∧ W.cell? ⟨gm, a, none⟩ = some (.int .i64 x)
theorem PtrA.grown {B a g : Nat} {x : Int} {v : Value} {W W' : World} (h : PtrA B a x v W) (k : W.grownBy W' (some g)) (hg : g < B) : PtrA B a x v W' := by
  obtain ⟨gm, h1, h3, h4, h5⟩ := h
  exact ⟨gm, h1, h3, Nat.lt_of_lt_of_le h4 k.size, (World.cell?_of_block (a := ⟨gm, a, none⟩) (k.block gm h4 (by intro e; injection e with e; omega))).trans h5⟩
theorem HasA.of {B a : Nat} {x : Int} {v : Value} {m : List Int} {W : World} (h : OwnM B v m W) (ha : a < m.length) (hx : m[a]?.getD 0 = x) : HasA B a x v W := by
  obtain ⟨A, cm, gm, rfl, h1, h2, h3⟩ := h
  obtain ⟨rfl, h4, h5⟩ := h3 (by omega)
  refine ⟨gm, m.length, cm, rfl, ha, h4, h5.lt, ?_⟩
  rw [List.getElem?_eq_getElem ha] at hx
  exact h5.cell (by rw [List.getElem?_eq_getElem ha]; exact congrArg some hx)
theorem store2b {wr W : World} {g : Nat} {t : TypeId} {x0 x1 : Value} (hg : wr.grownBy W (some g)) (h : Blk W g t #[x0, x1]) (y0 y1 : Value) :
    CR (fun W => CS wr g t 2 W) (fun W W' => RS g t #[y0, y1] W W') W ((W.setCell ⟨g, 0, none⟩ y0).setCell ⟨g, 1, none⟩ y1) ∧ Blk ((W.setCell ⟨g, 0, none⟩ y0).setCell ⟨g, 1, none⟩ y1) g t #[y0, y1] := by
  have hB : Blk ((W.setCell ⟨g, 0, none⟩ y0).setCell ⟨g, 1, none⟩ y1) g t #[y0, y1] := by
    have := (h.set_ 0 y0).set_ 1 y1
    simpa using this
  exact ⟨⟨⟨grown_set (grown_set hg (p := ⟨g, 0, none⟩) (.inl rfl) y0) (p := ⟨g, 1, none⟩) (.inl rfl) y1, _, hB, rfl⟩, grown_set (grown_set (World.grownBy.refl _ _) (p := ⟨g, 0, none⟩) (.inl rfl) y0) (p := ⟨g, 1, none⟩) (.inl rfl) y1, fun _ => hB⟩, hB⟩
theorem OwnM.mono {B B' : Nat} {v : Value} {l : List Int} {W : World} (h : OwnM B v l W) (hb : B' ≤ B) : OwnM B' v l W := by
  obtain ⟨A, cm, gm, h1, h2, h3, h4⟩ := h
  exact ⟨A, cm, gm, h1, h2, h3, fun h0 => ⟨(h4 h0).1, Nat.le_trans hb (h4 h0).2.1, (h4 h0).2.2⟩⟩
set_option maxHeartbeats 8000000 in
theorem refRange_any (c : Chn) (x lo hi : Int) (hv sv : Value) (w : World) (hrg : RangeOf c x lo hi) (hh : SlI w hv c.houses) (hs : SlL w sv c.sales) :
    Calls Tryd.prog 36 #[valC hv sv, .int .i64 x] w (SpanE lo hi (rangeE c x) w) := by
  have HH := Lib.hid hh; have HS := Lib.hid hs
  obtain ⟨A, n, cp, rfl, hn, hlc, hcm⟩ := hh.form
  obtain ⟨A2, n2, cp2, rfl, hn2, hlc2, hcm2⟩ := hs.form
  obtain ⟨w0, hw0⟩ : ∃ w0, w0 = (w.alloc (.cells #[.slice A n cp, .slice A2 n2 cp2] 25)).alloc (.cells #[.int .i64 0, .int .i64 0] 48) := ⟨_, rfl⟩
  have E0 := Lib.hid (show Ext w w0 from hw0 ▸ (Ext.al _ _).alloc _)
  have B0 := Lib.hid (show Blk w0 w.heap.size 25 #[.slice A n cp, .slice A2 n2 cp2] from hw0 ▸ (Blk.new _ _ _).alloc _)
  have C0 := Lib.hid (show Blk w0 (w.heap.size + 1) 48 #[.int .i64 0, .int .i64 0] from hw0 ▸ Blk.at_ (by simp))
  have hz0 : w0.heap.size = w.heap.size + 2 := by rw [hw0]; simp
  clear hh hs
  go_enter Tryd.func36, Tryd.ntmps36
  go_wp2_with fail
  simp only [← hw0]
  clear hw0
  refine (refChain_any c _ _ _ (HH.out.ext E0.out) (HS.out.ext E0.out)).mono ?_
  rintro e w1 ⟨rfl, hE⟩
  have E1 := Lib.hid (E0.out.trans hE); have B1 := Lib.hid (B0.out.ext hE); have C1 := Lib.hid (C0.out.ext hE)
  have hz1 := hE.size
  clear hE
  cases hc : checkP c with
  | false =>
    have HE := Lib.hid (show rangeE c x = 60 by unfold rangeE; rw [hc]; rfl)
    have HZ := Lib.hid (hrg.2 (by rw [HE.out]; decide))
    clear hc hrg
    obtain ⟨e0, e1, ef, el⟩ := C1.out.c2
    go_wp2
    refine ret_span rfl C1.out rfl rfl rfl fun W hG => ?_
    exact ⟨by rw [HZ.out.1, HZ.out.2, HE.out], ext_grown E1.out hG (by omega)⟩
  | true =>
    have HR := Lib.hid (check_right hc).1
    have HS10 := Lib.hid (check_right hc).2
    have HCK := Lib.hid hc
    clear hc
    have x0 := B1.out.c2
    go_wp2_with fail
    clear x0
    refine (saleIdx_any c x _ _ _ (HH.out.ext E1.out) (HS.out.ext E1.out)).mono ?_
    rintro e w2 ⟨rfl, hE⟩
    have E2 := Lib.hid (E1.out.trans hE); have B2 := Lib.hid (B1.out.ext hE); have C2 := Lib.hid (C1.out.ext hE)
    have hz2 := hE.size
    clear hE
    rcases idxF_cases (fun y : Sale => decide (y.number = x)) c.sales with ⟨hno, -⟩ | ⟨a, y, hya, hay, -, -⟩
    · have hsi : saleI c x = -1 := hno
      have HE := Lib.hid (show rangeE c x = 61 by unfold rangeE; rw [HCK.out, if_pos rfl, hsi]; rfl)
      have HZ := Lib.hid (hrg.2 (by rw [HE.out]; decide))
      obtain ⟨e0, e1, ef, el⟩ := C2.out.c2
      rw [hsi]
      clear hno hsi hrg
      go_wp2
      refine ret_span rfl C2.out rfl rfl rfl fun W hG => ?_
      exact ⟨by rw [HZ.out.1, HZ.out.2, HE.out], ext_grown E2.out hG (by omega)⟩
    · have hsi : saleI c x = (a : Int) := hya
      have ha : a < c.sales.length := (List.getElem?_eq_some_iff.1 hay).1
      have HE0 := Lib.hid (show rangeE c x = 0 by unfold rangeE; rw [HCK.out, if_pos rfl, hsi]; rfl)
      have hlh := hrg.1 HE0.out
      rw [hsi, Int.toNat_natCast] at hlh
      have HLH := Lib.hid hlh
      rw [hsi]
      clear hya hsi hrg hlh hay
      have han : a < n2 := by have := hn2.out; omega
      have hanz : (a : Int) < (n2 : Int) := by omega
      have ha0 : ¬ (a : Int) < 0 := by omega
      have hn10 : n2 ≤ 10 := by have := HS10.out; have := hn2.out; omega
      have HHA := Lib.hid ha
      clear ha
      have hmk := fun w => run_makeI (n := n2) (by omega) w
      have HAB := Lib.hid (fun h => HH.out.lt (w := w) h)
      have HSB := Lib.hid (fun h => HS.out.lt (w := w) h)
      have m0 := fun W (h : Ext w2 W) => (B2.out.ext h).c2
      have hel := C2.out.lt
      go_wp2
      refine wp_region_tameJ (fun W => Ext w2 W) (fun W W' => Ext W W') (Sep [23, 7] [27, 8]) (by kernel_rfl) 65 rfl (by decide +kernel) (Ext.refl _).drew ?_ ?_
      · constructor
        · intro d hd g n c e
          simp at hd
          rcases hd with (rfl | rfl) | (rfl | rfl) <;> cases e
        · intro d d' hd hd' g n c g' n' c' e e'
          simp at hd
          rcases hd with rfl | rfl <;> cases e
      apply tameJ_q rfl rfl (fun A W W' v _ h k => h.put k (by decide) (by decide) v)
      · intro ρ W hC hr hD
        obtain ⟨hrc, hrg, hrf, hrs⟩ := hr
        simp [go_sem] at hD
        go_simp
        exact ⟨⟨hC, Ext.refl _⟩, rfl⟩
      simp only [List.nil_append, List.cons_append]
      apply tameJ_q rfl rfl (fun A W W' v _ h k => h.put k (by decide) (by decide) v)
      · intro ρ W hC hr hD
        obtain ⟨hrc, hrg, hrf, hrs⟩ := hr
        simp [go_sem] at hD
        go_simp
        exact ⟨⟨hC, Ext.refl _⟩, rfl⟩
      simp only [List.nil_append, List.cons_append]
      apply tameJ_q rfl rfl (fun A W W' v _ h k => h.put k (by decide) (by decide) v)
      · intro ρ W hC hr hD
        obtain ⟨hrc, hrg, hrf, hrs⟩ := hr
        simp [go_sem] at hD
        go_simp
        exact ⟨⟨hC, Ext.refl _⟩, rfl⟩
      simp only [List.nil_append, List.cons_append]
      apply tameJ_m rfl rfl (FreshI w2.heap.size n2) (fun v W W' _ hE h => h.ext hE)
      · intro ρ W hC hr hD
        obtain ⟨hrc, hrg, hrf, hrs⟩ := hr
        simp [go_sem] at hD
        have hzC := Below.size hC
        go_simp
        exact ⟨⟨hC.alloc _, Ext.al _ _⟩, ⟨_, rfl, by omega, Blk.new _ _ _⟩, fun A9 _ hS hI9 => hI9.fresh (Nat.lt_of_lt_of_eq (show 23 < 65 by decide) (Eq.symm hS.2.1)) (by decide)⟩
      simp only [List.nil_append, List.cons_append]
      apply tameJ_q rfl rfl (fun A W W' v _ h k => h.put k (by decide) (by decide) v)
      · intro ρ W hC hr hD
        obtain ⟨hrc, hrg, hrf, hrs⟩ := hr
        simp [go_sem] at hD
        go_simp
        exact ⟨⟨hC, Ext.refl _⟩, rfl⟩
      simp only [List.nil_append, List.cons_append]
      apply tameJ_q rfl rfl (fun A W W' v _ h k => h.put k (by decide) (by decide) v)
      · intro ρ W hC hr hD
        obtain ⟨hrc, hrg, hrf, hrs⟩ := hr
        simp [go_sem] at hD
        go_simp
        exact ⟨⟨hC, Ext.refl _⟩, rfl⟩
      simp only [List.nil_append, List.cons_append]
      apply tameJ_q rfl rfl (fun A W W' v _ h k => h.put k (by decide) (by decide) v)
      · intro ρ W hC hr hD
        obtain ⟨hrc, hrg, hrf, hrs⟩ := hr
        simp [go_sem] at hD
        go_simp
        exact ⟨⟨hC, Ext.refl _⟩, rfl⟩
      simp only [List.nil_append, List.cons_append]
      apply tameJ_m rfl rfl (FreshI w2.heap.size n2) (fun v W W' _ hE h => h.ext hE)
      · intro ρ W hC hr hD
        obtain ⟨hrc, hrg, hrf, hrs⟩ := hr
        simp [go_sem] at hD
        have hzC := Below.size hC
        go_simp
        exact ⟨⟨hC.alloc _, Ext.al _ _⟩, ⟨_, rfl, by omega, Blk.new _ _ _⟩, fun A9 _ hS hI9 => hI9.fresh (Nat.lt_of_lt_of_eq (show 27 < 65 by decide) (Eq.symm hS.2.1)) (by decide)⟩
      simp only [List.nil_append, List.cons_append]
      apply tameJ_m rfl rfl (FreshI w2.heap.size n2) (fun v W W' _ hE h => h.ext hE)
      · intro ρ W hC hr hD
        obtain ⟨hrc, hrg, hrf, hrs⟩ := hr
        simp [go_sem] at hD
        go_simp
        exact ⟨⟨hC, Ext.refl _⟩, fun A9 he hS hI9 => he ▸ hI9.copy1 (d0 := 23) (Nat.lt_of_lt_of_eq (show 7 < 65 by decide) (Eq.symm hS.2.1)) (by decide) (by decide)⟩
      simp only [List.nil_append, List.cons_append]
      apply tameJ_m rfl rfl (FreshI w2.heap.size n2) (fun v W W' _ hE h => h.ext hE)
      · intro ρ W hC hr hD
        obtain ⟨hrc, hrg, hrf, hrs⟩ := hr
        simp [go_sem] at hD
        go_simp
        exact ⟨⟨hC, Ext.refl _⟩, fun A9 he hS hI9 => he ▸ hI9.copy2 (d0 := 27) (Nat.lt_of_lt_of_eq (show 8 < 65 by decide) (Eq.symm hS.2.1)) (by decide) (by decide)⟩
      simp only [List.nil_append, List.cons_append]
      refine tameJ_end 65 rfl rfl (fun ρ W hC hr hI9 hF => ?_)
      obtain ⟨hrc, hrg, hrf, hrs⟩ := hr
      simp [go_sem] at hF
      obtain ⟨-, -, -, -, -, -, -, -, ⟨g7, f7, hg7, hR7⟩, ⟨g8, f8, hg8, hR8⟩⟩ := hF
      intro hsep
      have h78 : g7 ≠ g8 := hsep.ne 7 8 (by decide) (by decide) g7 n2 n2 g8 n2 n2 f7 f8
      apply frame_to
      · go_simp
        exact rfl
      generalize ρ (Operand.tmp 20) = v20
      generalize ρ (Operand.tmp 21) = v21
      generalize ρ (Operand.tmp 22) = v22
      generalize ρ (Operand.tmp 23) = v23
      generalize ρ (Operand.tmp 24) = v24
      generalize ρ (Operand.tmp 25) = v25
      generalize ρ (Operand.tmp 26) = v26
      generalize ρ (Operand.tmp 27) = v27
      have R7 := Lib.hid hR7; have R8 := Lib.hid hR8
      have EW := Lib.hid hC
      have hzW := hC.size
      clear hsep hI9 hrs hrc hrg hrf hR7 hR8 hC f7 f8 m0 hmk
      go_wp2
      refine wp_loop_ghost_k (fun g A' U => ∃ (i : Nat), i ≤ n2 ∧ n2 - i ≤ g ∧ Fr 65 [(2, .pointer (some ⟨w.heap.size, 0, none⟩)), (4, .pointer (some ⟨w.heap.size + 1, 0, none⟩)), (6, .int .i64 (a : Int)), (7, .slice (some ⟨g7, 0, none⟩) n2 n2), (8, .slice (some ⟨g8, 0, none⟩) n2 n2), (9, .int .i64 (i : Int))] [] A' ∧
        Below w2.heap.size W U ∧ RowI U g7 (fillT n2 i) ∧ RowI U g8 (fillT n2 i)) n2 ?_ ?_
      · exact ⟨0, by omega, by omega, ⟨rfl, rfl, by simp [Act.eval]⟩, Below.refl _ _, by rw [fillT_zero]; exact R7.out, by rw [fillT_zero]; exact R8.out⟩
      · rintro g A' U ⟨i, hin, hg, hF, hB, h7, h8⟩ J K' hJ hK
        have HJ := Lib.hid hJ; have BU := Lib.hid hB; have R7 := Lib.hid h7; have R8 := Lib.hid h8
        obtain ⟨ρ, rfl, hρ⟩ := hF.open_
        simp only [List.forall_mem_cons] at hρ
        obtain ⟨r2, r4, r6, r7, r8, r9, -⟩ := hρ
        simp only [lst, Nat.reduceAdd, r2, r4, r6, r7, r8, r9]
        clear r2 r4 r6 r7 r8 r9 hF hB hJ h7 h8
        have hzU := BU.out.size
        by_cases hlt : i < n2
        · have hltz : (i : Int) < (n2 : Int) := by omega
          have hlen := fillT_len (N := n2) (i := i) (by omega)
          obtain ⟨y7, hy7⟩ : ∃ y, (fillT n2 i)[i]? = some y := ⟨_, List.getElem?_eq_getElem (by omega)⟩
          have c7 := R7.out.cell hy7
          have f7 := R7.out.frozen
          have l7 := R7.out.lt
          have c8 := R8.out.cell hy7
          have f8 := R8.out.frozen
          have l8 := R8.out.lt
          have HST := Lib.hid (fillT_step hlt)
          clear hy7
          go_wp2
          exact Handed.intro (n2 - (i + 1)) (by omega) (HJ.out _ _ _ ⟨i + 1, by omega, Nat.le_refl _, ⟨rfl, rfl, by simp [Act.eval]⟩, (BU.out.setCell (p := ⟨g7, i, none⟩) hg7 _).setCell (p := ⟨g8, i, none⟩) hg8 _,
            by rw [← HST.out]; exact (R7.out.set i 1000).far (by exact h78) _, by rw [← HST.out]; exact (R8.out.far (p := ⟨g7, i, none⟩) (Ne.symm h78) _).set i 1000⟩)
        · have HE := Lib.hid (show i = n2 by omega)
          have e7 := R7.out; have e8 := R8.out
          rw [HE.out, fillT_full] at e7 e8
          have hra : (List.replicate n2 (1000 : Int))[a]? = some 1000 := by rw [List.getElem?_replicate, if_pos han]
          have c7 := e7.cell hra
          have f7 := e7.frozen
          have l7 := e7.lt
          have c8 := (e8.far (p := ⟨g7, a, none⟩) (Ne.symm h78) (.int .i64 1001)).cell hra
          have f8 := e8.frozen
          have l8 := e8.lt
          obtain ⟨V, hV⟩ : ∃ V, V = (U.setCell ⟨g7, a, none⟩ (.int .i64 1001)).setCell ⟨g8, a, none⟩ (.int .i64 999) := ⟨_, rfl⟩
          have R7V := Lib.hid (show RowI V g7 ((List.replicate n2 1000).set a (1000 + 1)) from hV ▸ (e7.set a 1001).far h78 _)
          have R8V := Lib.hid (show RowI V g8 ((List.replicate n2 1000).set a (1000 + -1)) from hV ▸ (e8.far (p := ⟨g7, a, none⟩) (Ne.symm h78) _).set a 999)
          have BV := Lib.hid (show Below w2.heap.size W V from hV ▸ (BU.out.setCell (p := ⟨g7, a, none⟩) hg7 _).setCell (p := ⟨g8, a, none⟩) hg8 _)
          have E2V := Lib.hid (show Ext w2 V from Below.trans EW.out BV.out)
          have EWV := Lib.hid (E2.out.trans E2V.out)
          have BXV := Lib.hid (B2.out.ext E2V.out)
          have hzV := E2V.out.size
          have hcz : (a : Int) < (n2 : Int) := hanz
          clear hra e7 e8
          go_wp2
          simp only [← hV]
          clear hV c7 f7 l7 c8 f8 l8 R7 R8 BU EW
          obtain ⟨x0, x1, xf, xl⟩ := BXV.out.c2
          have q0 := fun W (h : CS V (w.heap.size + 1) 48 2 W) => (h.cell (b := w.heap.size) (by omega) (by omega) 0).trans x0
          have q1 := fun W (h : CS V (w.heap.size + 1) 48 2 W) => (h.cell (b := w.heap.size) (by omega) (by omega) 1).trans x1
          have HHV := Lib.hid (fun W (h : CS V (w.heap.size + 1) 48 2 W) => (HH.out.ext EWV.out).grown h.1 fun h b o e => by have := HAB.out h b o e; omega)
          have HSV := Lib.hid (fun W (h : CS V (w.heap.size + 1) 48 2 W) => (HS.out.ext EWV.out).grown h.1 fun h b o e => by have := HSB.out h b o e; omega)
          have HK7 := Lib.hid (fun W (h : CS V (w.heap.size + 1) 48 2 W) => show SlI W (.slice (some ⟨g7, 0, none⟩) n2 n2) ((List.replicate n2 1000).set a (1000 + 1)) from by
            have := (show RowI W g7 _ from Blk.grown R7V.out h.1 (by intro e; injection e with e; omega)).sl (by rw [List.length_set, List.length_replicate]; unfold maxLen; omega)
            rwa [List.length_set, List.length_replicate] at this)
          have HK8 := Lib.hid (fun W (h : CS V (w.heap.size + 1) 48 2 W) => show SlI W (.slice (some ⟨g8, 0, none⟩) n2 n2) ((List.replicate n2 1000).set a (1000 + -1)) from by
            have := (show RowI W g8 _ from Blk.grown R8V.out h.1 (by intro e; injection e with e; omega)).sl (by rw [List.length_set, List.length_replicate]; unfold maxLen; omega)
            rwa [List.length_set, List.length_replicate] at this)
          have HST := Lib.hid (CS.start (C2.out.ext E2V.out))
          have hnc : n2 = c.sales.length := hn2.out
          have HNC := Lib.hid hnc
          clear x0 x1 xf xl hnc
          have hbR : ∀ e : Int, (e = 1 ∨ e = -1) → ∀ i, -20000000000000 ≤ refR e a i ∧ refR e a i ≤ 20000000000000 := fun e he i => by
            unfold refR
            split <;> rcases he with rfl | rfl <;> omega
          have HBR := Lib.hid hbR
          clear hbR
          refine wp_region_tame (fun W => CS V (w.heap.size + 1) 48 2 W) (fun W W' => RS (w.heap.size + 1) 48 #[.int .i64 lo, .int .i64 hi] W W') (by kernel_rfl) 65 rfl (by decide +kernel) HST.out ?_
          repeat
            (apply tame_q rfl
             (intro ρ W hC hr hD
              obtain ⟨hrc, hrg, hrf, hrs⟩ := hr
              simp [go_sem] at hD
              go_simp
              first | exact ⟨⟨hC, RS.refl _⟩, rfl⟩ | exact rfl)
             simp only [List.nil_append, List.cons_append])
          apply tame_v rfl (HasA (w.heap.size + 2) a lo) (fun v W W' _ hR h => h.grown hR.1 (by omega))
          · intro ρ W hC hr hD
            obtain ⟨hrc, hrg, hrf, hrs⟩ := hr
            simp [go_sem] at hD
            have hzC := hC.1.size
            go_simp
            refine (cheapest_any (c := c) (f := refR 1 a) HR.out (by have := HS10.out; omega) (ks_eq (e := 1) han) (by rw [List.length_set, List.length_replicate]; exact HNC.out) (HBR.out 1 (.inl rfl)) (HHV.out W hC) (HSV.out W hC) (HK7.out W hC)).mono ?_
            rintro e w' ⟨v, m, rfl, hE, hom, hO⟩
            have hml : m.length = c.sales.length := by rw [feas_len hO.1, at_len]
            have hx := range_ref HR.out (.inl rfl) HHA.out hO HLH.out.1
            exact ⟨_, rfl, ⟨hC.ext hE, RS.ext hE⟩, HasA.of (hom.mono (by omega)) (by rw [hml]; exact HHA.out) hx⟩
          simp only [List.nil_append, List.cons_append]
          repeat
            (apply tame_q rfl
             (intro ρ W hC hr hD
              obtain ⟨hrc, hrg, hrf, hrs⟩ := hr
              simp [go_sem] at hD
              go_simp
              first | exact ⟨⟨hC, RS.refl _⟩, rfl⟩ | exact rfl)
             simp only [List.nil_append, List.cons_append])
          apply tame_v rfl (PtrA (w.heap.size + 2) a lo) (fun v W W' _ hR h => h.grown hR.1 (by omega))
          · intro ρ W hC hr hD
            obtain ⟨hrc, hrg, hrf, hrs⟩ := hr
            simp [go_sem] at hD
            obtain ⟨d1, ⟨gm, nm, cm, d2, d3, d4, d5, d6⟩⟩ : ρ (.tmp 55) = .int .i64 (a : Int) ∧ HasA (w.heap.size + 2) a lo (ρ (.tmp 54)) W := by first | exact hD | exact ⟨hD.2, hD.1⟩
            have hanm : (a : Int) < (nm : Int) := by omega
            clear hD
            go_simp
            exact ⟨⟨hC, RS.refl _⟩, ⟨gm, by simp, d4, d5, d6⟩⟩
          simp only [List.nil_append, List.cons_append]
          apply tame_q rfl
          · intro ρ W hC hr hD
            obtain ⟨hrc, hrg, hrf, hrs⟩ := hr
            simp [go_sem] at hD
            obtain ⟨gm, d1, d2, d3, d4⟩ := hD
            go_simp
            exact ⟨⟨hC, RS.refl _⟩, rfl⟩
          simp only [List.nil_append, List.cons_append]
          repeat
            (apply tame_q rfl
             (intro ρ W hC hr hD
              obtain ⟨hrc, hrg, hrf, hrs⟩ := hr
              simp [go_sem] at hD
              go_simp
              first | exact ⟨⟨hC, RS.refl _⟩, rfl⟩ | exact rfl)
             simp only [List.nil_append, List.cons_append])
          apply tame_v rfl (HasA (w.heap.size + 2) a hi) (fun v W W' _ hR h => h.grown hR.1 (by omega))
          · intro ρ W hC hr hD
            obtain ⟨hrc, hrg, hrf, hrs⟩ := hr
            simp [go_sem] at hD
            have hzC := hC.1.size
            go_simp
            refine (cheapest_any (c := c) (f := refR (-1) a) HR.out (by have := HS10.out; omega) (ks_eq (e := (-1)) han) (by rw [List.length_set, List.length_replicate]; exact HNC.out) (HBR.out (-1) (.inr rfl)) (HHV.out W hC) (HSV.out W hC) (HK8.out W hC)).mono ?_
            rintro e w' ⟨v, m, rfl, hE, hom, hO⟩
            have hml : m.length = c.sales.length := by rw [feas_len hO.1, at_len]
            have hx := range_ref HR.out (.inr rfl) HHA.out hO HLH.out.2
            exact ⟨_, rfl, ⟨hC.ext hE, RS.ext hE⟩, HasA.of (hom.mono (by omega)) (by rw [hml]; exact HHA.out) hx⟩
          simp only [List.nil_append, List.cons_append]
          repeat
            (apply tame_q rfl
             (intro ρ W hC hr hD
              obtain ⟨hrc, hrg, hrf, hrs⟩ := hr
              simp [go_sem] at hD
              go_simp
              first | exact ⟨⟨hC, RS.refl _⟩, rfl⟩ | exact rfl)
             simp only [List.nil_append, List.cons_append])
          apply tame_v rfl (PtrA (w.heap.size + 2) a hi) (fun v W W' _ hR h => h.grown hR.1 (by omega))
          · intro ρ W hC hr hD
            obtain ⟨hrc, hrg, hrf, hrs⟩ := hr
            simp [go_sem] at hD
            obtain ⟨d1, ⟨gm, nm, cm, d2, d3, d4, d5, d6⟩⟩ : ρ (.tmp 61) = .int .i64 (a : Int) ∧ HasA (w.heap.size + 2) a hi (ρ (.tmp 60)) W := by first | exact hD | exact ⟨hD.2, hD.1⟩
            have hanm : (a : Int) < (nm : Int) := by omega
            clear hD
            go_simp
            exact ⟨⟨hC, RS.refl _⟩, ⟨gm, by simp, d4, d5, d6⟩⟩
          simp only [List.nil_append, List.cons_append]
          apply tame_q rfl
          · intro ρ W hC hr hD
            obtain ⟨hrc, hrg, hrf, hrs⟩ := hr
            simp [go_sem] at hD
            obtain ⟨gm, d1, d2, d3, d4⟩ := hD
            go_simp
            exact ⟨⟨hC, RS.refl _⟩, rfl⟩
          simp only [List.nil_append, List.cons_append]
          repeat
            (apply tame_q rfl
             (intro ρ W hC hr hD
              obtain ⟨hrc, hrg, hrf, hrs⟩ := hr
              simp [go_sem] at hD
              go_simp
              first | exact ⟨⟨hC, RS.refl _⟩, rfl⟩ | exact rfl)
             simp only [List.nil_append, List.cons_append])
          apply tame_n (fun _ W => Blk W (w.heap.size + 1) 48 #[.int .i64 lo, .int .i64 hi]) (fun _ W W' _ hR h => hR.2 h)
          · intro ρ W hC hr hD
            obtain ⟨hrc, hrg, hrf, hrs⟩ := hr
            simp [go_sem] at hD
            obtain ⟨hg1, cs0, hB, hsz⟩ := hC
            obtain ⟨cs0⟩ := cs0
            obtain ⟨x0, x1, rfl⟩ : ∃ x0 x1, cs0 = [x0, x1] := by
              match cs0, hsz with
              | [x0, x1], _ => exact ⟨_, _, rfl⟩
            obtain ⟨b0, b1, bf, bl⟩ := hB.c2
            have HB := Lib.hid hB; have HG1 := Lib.hid hg1; clear hB hg1
            go_simp
            exact store2b HG1.out HB.out _ _
          simp only [List.nil_append, List.cons_append]
          repeat
            (apply tame_q rfl
             (intro ρ W hC hr hD
              obtain ⟨hrc, hrg, hrf, hrs⟩ := hr
              simp [go_sem] at hD
              go_simp
              first | exact ⟨⟨hC, RS.refl _⟩, rfl⟩ | exact rfl)
             simp only [List.nil_append, List.cons_append])
          refine tame_end 65 rfl rfl (fun ρ W hC hr hF => ?_)
          have hBF : Blk W (w.heap.size + 1) 48 #[.int .i64 lo, .int .i64 hi] := hF.2.2.2.2.2.2.2.2.2.2.2.2.2.1
          have HBF := Lib.hid hBF; clear hBF
          obtain ⟨hrc, hrg, hrf, hrs⟩ := hr
          simp [go_sem] at hF
          apply frame_to
          · go_simp
            exact rfl
          have HC := Lib.hid hC.1
          clear hF hrs hrc hrg hrf hC q0 q1
          obtain ⟨b0, b1, -, hbl⟩ := HBF.out.c2
          go_wp2
          (try simp only [Exit.inBlock, Exit.then])
          refine bodyPost_ret (v := .tuple #[.agg #[.int .i64 lo, .int .i64 hi], .int .i64 0]) ?_ rfl ?_
          · rw [results_cell_tmp rfl]
            go_simp
          · rw [HE0.out]
            exact ⟨rfl, ext_grown EWV.out HC.out (by omega)⟩
end Go.Proofs.YtafdbgielmlihaaDoor
/- Range: the program's. -/
namespace Go.Proofs.YtafdbgielmlihaaDoor
open Go.RowKit Go.Shelf Go.Lib
set_option maxRecDepth 100000
set_option linter.unusedSimpArgs false

def costR (e : Int) (a i : Nat) : List Int := [1, if i = a then e else 0, 0, 0, 0, 0, 0, 0, 0, 0, 0, 0]
theorem costR_len (e : Int) (a i : Nat) : (costR e a i).length = 12 := rfl
theorem costs_range (N a : Nat) {e : Int} (he : e = 1 ∨ e = -1) : Costs (progR e a) ((List.range N).map (costR e a)) := by
  refine ⟨fun i d h => ?_⟩
  rw [List.getElem?_map] at h
  obtain ⟨j, hj, rfl⟩ := Option.map_eq_some_iff.1 h
  obtain ⟨hl, e1⟩ := List.getElem?_eq_some_iff.1 hj
  simp at hl e1
  subst e1
  unfold costR progR
  by_cases hi : i = a
  · simp only [if_pos hi]
    rcases he with rfl | rfl
    · exact ⟨rfl, fun x hx => by simp at hx; omega, by decide +kernel⟩
    · exact ⟨rfl, fun x hx => by simp at hx; omega, by decide +kernel⟩
  · simp only [if_neg hi]
    exact ⟨rfl, fun x hx => by simp at hx; omega, by decide +kernel⟩
theorem progR_pos {e : Int} (he : e = 1 ∨ e = -1) (a i : Nat) : 0 ≤ progR e a i := by
  unfold progR
  split <;> rcases he with rfl | rfl <;> decide +kernel
theorem idxF_map {α β : Type} (f : α → β) (p : β → Bool) (q : α → Bool) (h : ∀ x, p (f x) = q x) (l : List α) : idxF p (l.map f) = idxF q l := by
  unfold idxF
  rw [List.findIdx?_map]
  have : (p ∘ f) = q := funext h
  rw [this]
theorem idx_numbers (c : Chn) (x : Int) : idxF (fun y => decide (x = y)) (c.sales.map (·.number)) = saleI c x := by
  unfold saleI
  exact idxF_map _ _ _ (fun s => by by_cases h : x = s.number <;> simp [h, eq_comm]) _
set_option maxHeartbeats 8000000 in
theorem range_any (c : Chn) (x lo hi : Int) (hv sv : Value) (w : World) (hrg : RangeOf c x lo hi) (hT : Tab w) (hh : SlI w hv c.houses) (hs : SlL w sv c.sales) (hl : c.sales.length ≤ 1000) :
    Calls Tryd.prog 35 #[valC hv sv, .int .i64 x] w (SpanE lo hi (rangeE c x) w) := by
  have HT := Lib.hid hT; have HH := Lib.hid hh; have HS := Lib.hid hs; have HL := Lib.hid hl
  obtain ⟨A, n, cp, rfl, hn, hlc, hcm⟩ := hh.form
  obtain ⟨A2, n2, cp2, rfl, hn2, hlc2, hcm2⟩ := hs.form
  obtain ⟨w0, hw0⟩ : ∃ w0, w0 = (w.alloc (.cells #[.slice A n cp, .slice A2 n2 cp2] 25)).alloc (.cells #[.int .i64 0, .int .i64 0] 48) := ⟨_, rfl⟩
  have E0 := Lib.hid (show Ext w w0 from hw0 ▸ (Ext.al _ _).alloc _)
  have B0 := Lib.hid (show Blk w0 w.heap.size 25 #[.slice A n cp, .slice A2 n2 cp2] from hw0 ▸ (Blk.new _ _ _).alloc _)
  have C0 := Lib.hid (show Blk w0 (w.heap.size + 1) 48 #[.int .i64 0, .int .i64 0] from hw0 ▸ Blk.at_ (by simp))
  have hz0 : w0.heap.size = w.heap.size + 2 := by rw [hw0]; simp
  clear hh hs hT hl
  go_enter Tryd.func35, Tryd.ntmps35
  go_wp2_with fail
  simp only [← hw0]
  clear hw0
  refine (check_any c _ _ _ (HT.out.ext E0.out) (HH.out.ext E0.out) (HS.out.ext E0.out) HL.out).mono ?_
  rintro e w1 ⟨rfl, hE⟩
  have E1 := Lib.hid (E0.out.trans hE); have B1 := Lib.hid (B0.out.ext hE); have C1 := Lib.hid (C0.out.ext hE)
  have hz1 := hE.size
  clear hE
  cases hc : checkP c with
  | false =>
    have HE := Lib.hid (show rangeE c x = 60 by unfold rangeE; rw [hc]; rfl)
    have HZ := Lib.hid (hrg.2 (by rw [HE.out]; decide))
    clear hc hrg
    dsimp only [errB]
    obtain ⟨e0, e1, ef, el⟩ := C1.out.c2
    go_wp2
    refine ret_span rfl C1.out rfl rfl rfl fun W hG => ?_
    exact ⟨by rw [HZ.out.1, HZ.out.2, HE.out], ext_grown E1.out hG (by omega)⟩
  | true =>
    have HR := Lib.hid (check_right hc).1
    have HS10 := Lib.hid (check_right hc).2
    have HCK := Lib.hid hc
    clear hc
    dsimp only [errB]
    have x0 := B1.out.c2
    go_wp2_with fail
    clear x0
    refine (numbers_any c.sales _ _ (HS.out.ext E1.out) (by have := HS10.out; omega)).mono ?_
    rintro e w2 ⟨⟨v2, rfl, ho⟩, hE⟩
    have E2 := Lib.hid (E1.out.trans hE); have B2 := Lib.hid (B1.out.ext hE); have C2 := Lib.hid (C1.out.ext hE)
    have SN := Lib.hid (show SlI w2 v2 (c.sales.map (·.number)) from ho.sl (fun _ => rfl))
    have hz2 := hE.size
    clear hE ho
    go_wp2_with fail
    refine (f85_any _ x _ _ SN.out).mono ?_
    rintro e w3 ⟨rfl, hE⟩
    rw [idx_numbers]
    have E3 := Lib.hid (E2.out.trans hE); have B3 := Lib.hid (B2.out.ext hE); have C3 := Lib.hid (C2.out.ext hE)
    have hz3 := hE.size
    clear hE
    rcases idxF_cases (fun y : Sale => decide (y.number = x)) c.sales with ⟨hno, -⟩ | ⟨a, y, hya, hay, -, -⟩
    · have hsi : saleI c x = -1 := hno
      have HE := Lib.hid (show rangeE c x = 61 by unfold rangeE; rw [HCK.out, if_pos rfl, hsi]; rfl)
      have HZ := Lib.hid (hrg.2 (by rw [HE.out]; decide))
      obtain ⟨e0, e1, ef, el⟩ := C3.out.c2
      rw [hsi]
      clear hno hsi hrg
      go_wp2
      refine ret_span rfl C3.out rfl rfl rfl fun W hG => ?_
      exact ⟨by rw [HZ.out.1, HZ.out.2, HE.out], ext_grown E3.out hG (by omega)⟩
    · have hsi : saleI c x = (a : Int) := hya
      have ha : a < c.sales.length := (List.getElem?_eq_some_iff.1 hay).1
      have HE0 := Lib.hid (show rangeE c x = 0 by unfold rangeE; rw [HCK.out, if_pos rfl, hsi]; rfl)
      have hlh := hrg.1 HE0.out
      rw [hsi, Int.toNat_natCast] at hlh
      obtain ⟨vv, hvv⟩ : ∃ vv : Nat → Int, vv = fun k => if k = 0 then lo else hi := ⟨_, rfl⟩
      have HVV := Lib.hid (show ∀ k : Nat, k < 2 → IsRange c (1 - 2 * (k : Int)) a (vv k) from fun k hk => by
        rw [hvv]
        match k, hk with
        | 0, _ => exact hlh.1
        | 1, _ => exact hlh.2)
      have HV01 := Lib.hid (show vv 0 = lo ∧ vv 1 = hi by rw [hvv]; exact ⟨rfl, rfl⟩)
      rw [hsi]
      clear hya hsi hrg hlh hay hvv
      have han : a < n2 := by have := hn2.out; omega
      have hanz : (a : Int) < (n2 : Int) := by omega
      have ha0 : ¬ (a : Int) < 0 := by omega
      have hn10 : n2 ≤ 10 := by have := HS10.out; have := hn2.out; omega
      have HHA := Lib.hid ha
      clear ha
      have HAB := Lib.hid (fun h => HH.out.lt (w := w) h)
      have HSB := Lib.hid (fun h => HS.out.lt (w := w) h)
      obtain ⟨w4, hw4⟩ : ∃ w4, w4 = w3.alloc (.cells #[.int .i64 0, .int .i64 0] 123) := ⟨_, rfl⟩
      have E4 := Lib.hid (show Ext w3 w4 from hw4 ▸ Ext.al _ _)
      have D4 := Lib.hid (show Blk w4 w3.heap.size 123 #[.int .i64 0, .int .i64 0] from hw4 ▸ Blk.new _ _ _)
      have hz4 : w4.heap.size = w3.heap.size + 1 := by rw [hw4]; simp
      go_wp2
      simp only [← hw4]
      clear hw4
      refine wp_loop_ghost_k (fun g A' U => ∃ (k : Nat), k ≤ 2 ∧ 2 - k ≤ g ∧ Fr 75 [(2, .pointer (some ⟨w.heap.size, 0, none⟩)), (4, .pointer (some ⟨w.heap.size + 1, 0, none⟩)), (7, .int .i64 (a : Int)), (8, .pointer (some ⟨w3.heap.size, 0, none⟩)), (27, .int .i64 (k : Int))] [] A' ∧
        w4.grownBy U (some w3.heap.size) ∧ Blk U w3.heap.size 123 #[.int .i64 (if 0 < k then vv 0 else 0), .int .i64 (if 1 < k then vv 1 else 0)]) 2 ?_ ?_
      · exact ⟨0, by omega, by omega, ⟨rfl, rfl, by simp [Act.eval]⟩, World.grownBy.refl _ _, by simpa using D4.out⟩
      · rintro g A' U ⟨k, hk, hg, hF, hG, hD⟩ J K' hJ hK
        have HJ := Lib.hid hJ; have GU := Lib.hid hG; have DU := Lib.hid hD
        have hzU := hG.size
        obtain ⟨ρ, rfl, hρ⟩ := hF.open_
        simp only [List.forall_mem_cons] at hρ
        obtain ⟨r2, r4, r7, r8, r27, -⟩ := hρ
        simp only [lst, Nat.reduceAdd, r2, r4, r7, r8, r27]
        clear r2 r4 r7 r8 r27 hF hG hD hJ
        have HHU := Lib.hid (((HH.out.ext E3.out).ext E4.out).grown GU.out fun h b o e => by have := HAB.out h b o e; omega)
        have HSU := Lib.hid (((HS.out.ext E3.out).ext E4.out).grown GU.out fun h b o e => by have := HSB.out h b o e; omega)
        have BU := Lib.hid ((B3.out.ext E4.out).grown GU.out (by intro e; injection e with e; omega))
        have CU := Lib.hid ((C3.out.ext E4.out).grown GU.out (by intro e; injection e with e; omega))
        by_cases hlt : k < 2
        · have hltz : (k : Int) < 2 := by omega
          have x0 := (BU.out.alloc (.cells #[.slice A n cp, .slice A2 n2 cp2, .slice none 0 0, .slice none 0 0] 112)).c2
          have y0 := BU.out.c2
          obtain ⟨e, he⟩ : ∃ e : Int, e = 1 - 2 * (k : Int) := ⟨_, rfl⟩
          have he2 : e = 1 ∨ e = -1 := by omega
          have HE2 := Lib.hid he2; have HEK := Lib.hid he
          obtain ⟨U1, hU1⟩ : ∃ U1, U1 = U.alloc (.cells #[.slice A n cp, .slice A2 n2 cp2, .slice none 0 0, .slice none 0 0] 112) := ⟨_, rfl⟩
          have BM1 := Lib.hid (show Blk U1 U.heap.size 112 #[.slice A n cp, .slice A2 n2 cp2, .slice none 0 0, .slice none 0 0] from hU1 ▸ Blk.new _ _ _)
          have EU1 := Lib.hid (show Ext U U1 from hU1 ▸ Ext.al _ _)
          go_wp2
          simp only [← hU1]
          clear x0 y0 hU1
          obtain ⟨mb, hmb⟩ : ∃ mb, U.heap.size = mb := ⟨_, rfl⟩
          rw [hmb] at BM1
          simp only [hmb]
          refine wp_loop_ghost_k (fun g A' V => ∃ (i : Nat) (cvv : Value), i ≤ n2 ∧ n2 - i ≤ g ∧ Fr 75 [(2, .pointer (some ⟨w.heap.size, 0, none⟩)), (4, .pointer (some ⟨w.heap.size + 1, 0, none⟩)), (7, .int .i64 (a : Int)), (8, .pointer (some ⟨w3.heap.size, 0, none⟩)), (9, .int .i64 (k : Int)), (10, .pointer (some ⟨mb, 0, none⟩)), (27, .int .i64 (k : Int)), (34, .slice A2 n2 cp2), (35, .int .i64 (n2 : Int)), (36, .int .i64 (i : Int))] [] A' ∧
            Ext U V ∧ Blk V mb 112 #[.slice A n cp, .slice A2 n2 cp2, .slice none 0 0, cvv] ∧ NewF enc12 12 125 (mb + 1) ((List.range i).map (costR e a)) cvv V) n2 ?_ ?_
          · exact ⟨0, .slice none 0 0, by omega, by omega, ⟨rfl, rfl, by simp [Act.eval]⟩, EU1.out, BM1.out, ⟨Own.nil _ _, none, 0, rfl, fun _ => rfl⟩⟩
          · rintro g2 A2' wr ⟨i, cvv, hiN, hg2, hF, hE, hBM, hCN⟩ J2 K2 hJ2 hK2
            have HJ2 := Lib.hid hJ2; have EX := Lib.hid hE; have BM := Lib.hid hBM; have CN := Lib.hid hCN
            have hzr := hE.size
            have hmlt := hBM.lt
            obtain ⟨ρ, rfl, hρ⟩ := hF.open_
            simp only [List.forall_mem_cons] at hρ
            obtain ⟨r2, r4, r7, r8, r9, r10, r27, r34, r35, r36, -⟩ := hρ
            simp only [lst, Nat.reduceAdd, r2, r4, r7, r8, r9, r10, r27, r34, r35, r36]
            clear r2 r4 r7 r8 r9 r10 r27 r34 r35 r36 hF hE hBM hCN hJ2
            by_cases hin : i < n2
            · have hinz : (i : Int) < (n2 : Int) := by omega
              obtain ⟨w6, hw6⟩ : ∃ w6, w6 = wr.alloc (.cells #[.int .i64 1, .int .i64 (if i = a then e else 0), .int .i64 0, .int .i64 0, .int .i64 0, .int .i64 0, .int .i64 0, .int .i64 0, .int .i64 0, .int .i64 0, .int .i64 0, .int .i64 0] 125) := ⟨_, rfl⟩
              have E6 := Lib.hid (show Ext wr w6 from hw6 ▸ Ext.al _ _)
              have BX6 := Lib.hid (show Blk w6 wr.heap.size 125 (enc12 (costR e a i)).toArray from by
                rw [enc12_eq (costR_len e a i), hw6]
                exact Blk.new _ _ _)
              have hz3 := E6.out.size
              have HB6 := Lib.hid (show mb + 1 ≤ w6.heap.size by omega)
              have BM6 := Lib.hid (BM.out.ext E6.out)
              have CC6 := Lib.hid (show CApp (mb + 1) w6 wr.heap.size (costR e a i) ((List.range i).map (costR e a)) cvv w6 from ⟨Below.refl _ _, BX6.out, ⟨CN.out.1.ext E6.out, CN.out.2⟩⟩)
              by_cases hia : i = a
              · rw [if_pos hia, he] at hw6
                have hiz : ((i : Int) == (a : Int)) = true := by rw [hia]; simp
                clear hia
                go_wp2
                simp only [← hw6]
                clear hw6 hiz he
                obtain ⟨q0, q1, q2, q3, q4, q5, q6, q7, q8, q9, q10, q11, hqe⟩ := twelve (show ((costR e a i)).length = 12 from by exact costR_len _ _ _)
                have HQE := Lib.hid (show enc12 (costR e a i) = [.int .i64 q0, .int .i64 q1, .int .i64 q2, .int .i64 q3, .int .i64 q4, .int .i64 q5, .int .i64 q6, .int .i64 q7, .int .i64 q8, .int .i64 q9, .int .i64 q10, .int .i64 q11] by rw [hqe]; rfl)
                clear hqe
                have mm := fun (V : World) (h : CApp (mb + 1) w6 wr.heap.size (costR e a i) ((List.range i).map (costR e a)) cvv V) => (show Blk V mb _ _ from (h.b.block mb (by omega)).trans BM6.out).c4
                have kx0 := fun (V : World) (h : CApp (mb + 1) w6 wr.heap.size (costR e a i) ((List.range i).map (costR e a)) cvv V) => (show V.cell? ⟨wr.heap.size, 0, none⟩ = some (.int .i64 q0) from by have h1 := h.x.cell 0; rw [HQE.out] at h1; exact h1)
                have kx1 := fun (V : World) (h : CApp (mb + 1) w6 wr.heap.size (costR e a i) ((List.range i).map (costR e a)) cvv V) => (show V.cell? ⟨wr.heap.size, 1, none⟩ = some (.int .i64 q1) from by have h1 := h.x.cell 1; rw [HQE.out] at h1; exact h1)
                have kx2 := fun (V : World) (h : CApp (mb + 1) w6 wr.heap.size (costR e a i) ((List.range i).map (costR e a)) cvv V) => (show V.cell? ⟨wr.heap.size, 2, none⟩ = some (.int .i64 q2) from by have h1 := h.x.cell 2; rw [HQE.out] at h1; exact h1)
                have kx3 := fun (V : World) (h : CApp (mb + 1) w6 wr.heap.size (costR e a i) ((List.range i).map (costR e a)) cvv V) => (show V.cell? ⟨wr.heap.size, 3, none⟩ = some (.int .i64 q3) from by have h1 := h.x.cell 3; rw [HQE.out] at h1; exact h1)
                have kx4 := fun (V : World) (h : CApp (mb + 1) w6 wr.heap.size (costR e a i) ((List.range i).map (costR e a)) cvv V) => (show V.cell? ⟨wr.heap.size, 4, none⟩ = some (.int .i64 q4) from by have h1 := h.x.cell 4; rw [HQE.out] at h1; exact h1)
                have kx5 := fun (V : World) (h : CApp (mb + 1) w6 wr.heap.size (costR e a i) ((List.range i).map (costR e a)) cvv V) => (show V.cell? ⟨wr.heap.size, 5, none⟩ = some (.int .i64 q5) from by have h1 := h.x.cell 5; rw [HQE.out] at h1; exact h1)
                have kx6 := fun (V : World) (h : CApp (mb + 1) w6 wr.heap.size (costR e a i) ((List.range i).map (costR e a)) cvv V) => (show V.cell? ⟨wr.heap.size, 6, none⟩ = some (.int .i64 q6) from by have h1 := h.x.cell 6; rw [HQE.out] at h1; exact h1)
                have kx7 := fun (V : World) (h : CApp (mb + 1) w6 wr.heap.size (costR e a i) ((List.range i).map (costR e a)) cvv V) => (show V.cell? ⟨wr.heap.size, 7, none⟩ = some (.int .i64 q7) from by have h1 := h.x.cell 7; rw [HQE.out] at h1; exact h1)
                have kx8 := fun (V : World) (h : CApp (mb + 1) w6 wr.heap.size (costR e a i) ((List.range i).map (costR e a)) cvv V) => (show V.cell? ⟨wr.heap.size, 8, none⟩ = some (.int .i64 q8) from by have h1 := h.x.cell 8; rw [HQE.out] at h1; exact h1)
                have kx9 := fun (V : World) (h : CApp (mb + 1) w6 wr.heap.size (costR e a i) ((List.range i).map (costR e a)) cvv V) => (show V.cell? ⟨wr.heap.size, 9, none⟩ = some (.int .i64 q9) from by have h1 := h.x.cell 9; rw [HQE.out] at h1; exact h1)
                have kx10 := fun (V : World) (h : CApp (mb + 1) w6 wr.heap.size (costR e a i) ((List.range i).map (costR e a)) cvv V) => (show V.cell? ⟨wr.heap.size, 10, none⟩ = some (.int .i64 q10) from by have h1 := h.x.cell 10; rw [HQE.out] at h1; exact h1)
                have kx11 := fun (V : World) (h : CApp (mb + 1) w6 wr.heap.size (costR e a i) ((List.range i).map (costR e a)) cvv V) => (show V.cell? ⟨wr.heap.size, 11, none⟩ = some (.int .i64 q11) from by have h1 := h.x.cell 11; rw [HQE.out] at h1; exact h1)
                refine wp_region_tame_cut (CApp (mb + 1) w6 wr.heap.size (costR e a i) ((List.range i).map (costR e a)) cvv) (RF enc12 12 125 ((mb + 1)) (((List.range i).map (costR e a)) ++ [(costR e a i)]) (costR e a i)) (by kernel_rfl) 75 rfl _ rfl (by decide +kernel) (by decide +kernel) (by decide +kernel) rfl (CC6.out.ext (Ext.refl _).drew HB6.out) ?_
                simp only [List.dropLast]
                repeat (apply tame_q rfl; (intro ρ W hC hr hD; (obtain ⟨hrc, hrg, hrf, hrs⟩ := hr); (simp [go_sem] at hD); go_simp; first | exact ⟨⟨hC, RF.refl _⟩, rfl⟩ | exact rfl); simp only [List.nil_append, List.cons_append])
                apply tame_v rfl (OneF enc12 125 (costR e a i)) (fun v V V' _ hR h => by obtain ⟨g, h1, h2⟩ := h; exact ⟨g, h1, hR.2.2.1 g h2⟩)
                · intro ρ V hC hr hD
                  obtain ⟨hrc, hrg, hrf, hrs⟩ := hr
                  simp [go_sem] at hD
                  go_simp
                  exact ⟨⟨hC.ext (Ext.al _ _) (Nat.le_trans HB6.out hC.b.size), RF.ext (Ext.al _ _)⟩, ⟨_, rfl, by rw [HQE.out]; exact Blk.new _ _ _⟩⟩
                simp only [List.nil_append, List.cons_append]
                apply tame_v rfl (NewF enc12 12 125 ((mb + 1)) (((List.range i).map (costR e a)) ++ [(costR e a i)])) (fun v V V' _ hR h => ⟨hR.2.1 _ (List.prefix_refl _) v h.1, h.2⟩)
                · intro ρ V hC hr hD
                  obtain ⟨hrc, hrg, hrf, hrs⟩ := hr
                  simp [go_sem] at hD
                  obtain ⟨d1, g, d2, d3⟩ := hD
                  obtain ⟨v', V', hrun, hnew, hR, hB⟩ := run_appF (t := 110) (ty := 110) (enc := enc12) (sz := 12) (m := [(costR e a i)]) (y := (costR e a i)) Tryd.underlying110 info125x rfl (by decide) (by decide) enc12_len enc12_1 hC.c (F := ((List.range i).map (costR e a)) ++ [(costR e a i)]) (List.prefix_refl _) (by simp; omega) (Nat.le_trans HB6.out hC.b.size) (Sl.single (c := 1) d3 (Nat.le_refl _) (by decide))
                  rw [← d2, ← d1] at hrun
                  show opGives _ _ _ _ _ _ _
                  unfold opGives execOp
                  simp only [resolve, invoke, builtin, Sem.run_bind, Sem.run_pure, Result.andThen_ok, List.map_toArray, List.map_cons, List.map_nil, hrun]
                  exact ⟨⟨⟨hC.b.trans hB, hR.2.2.1 _ hC.x, ⟨hR.2.1 _ (List.prefix_append _ _) _ hC.c.1, hC.c.2⟩⟩, hR⟩, hnew⟩
                simp only [List.nil_append, List.cons_append]
                repeat (apply tame_q rfl; (intro ρ W hC hr hD; (obtain ⟨hrc, hrg, hrf, hrs⟩ := hr); (simp [go_sem] at hD); go_simp; first | exact ⟨⟨hC, RF.refl _⟩, rfl⟩ | exact rfl); simp only [List.nil_append, List.cons_append])
                refine tame_end_put rfl rfl (fun ρ V hC hr hF => ?_)
                simp [go_sem] at hF
                obtain ⟨f1, f2, f3, f4, f5, f6, ⟨g25, f7, -⟩, hN, f9, f10⟩ := hF
                simp only [putF, f1, f2, f3, f4, f5, f6, f7, f9, f10, List.set_cons_succ, List.set_cons_zero]
                generalize ρ (Operand.tmp 54) = cv2 at *
                obtain ⟨A9, c9, e9, -⟩ := hN.2
                rw [show (((List.range i).map (costR e a)) ++ [(costR e a i)]).length = (i + 1) by simp] at e9
                subst e9
                have CN2 := Lib.hid hN
                have BM7 := Lib.hid (show Blk V mb _ _ from (hC.b.block mb (by omega)).trans BM6.out)
                have EB7 := Lib.hid hC.b
                clear f1 f2 f3 f4 f5 f6 f7 f9 f10 hN hr hC mm kx0 kx1 kx2 kx3 kx4 kx5 kx6 kx7 kx8 kx9 kx10 kx11
                have x0 := BM7.out.c4
                go_wp2
                have hbsz := EB7.out.size
                have HEV := Lib.hid (show Ext U V from ⟨EB7.out.os.trans (E6.out.os.trans EX.out.os), EB7.out.tape.trans (E6.out.tape.trans EX.out.tape), EB7.out.output.trans (E6.out.output.trans EX.out.output), by omega, fun i hi => (EB7.out.block i (by omega)).trans (((EX.out.trans E6.out)).block i hi)⟩)
                refine Handed.intro (n2 - (i + 1)) (by omega) (HJ2.out _ _ _ ⟨i + 1, .slice A9 (i + 1) c9, by omega, Nat.le_refl _, ⟨rfl, rfl, by simp [Act.eval]⟩, HEV.out.setCell (by dsimp only; omega) _, ?_, ?_⟩)
                · have := BM7.out.set_ 3 (.slice A9 (i + 1) c9)
                  simpa using this
                · have hc := CN2.out
                  rw [List.range_succ, List.map_append]
                  exact ⟨own_far hc.1 (by dsimp only; omega) _, hc.2⟩
              · rw [if_neg hia] at hw6
                have hiz : ((i : Int) == (a : Int)) = false := by simpa using fun e : (i : Int) = a => hia (by omega)
                clear hia
                go_wp2
                simp only [← hw6]
                clear hw6 hiz he
                obtain ⟨q0, q1, q2, q3, q4, q5, q6, q7, q8, q9, q10, q11, hqe⟩ := twelve (show ((costR e a i)).length = 12 from by exact costR_len _ _ _)
                have HQE := Lib.hid (show enc12 (costR e a i) = [.int .i64 q0, .int .i64 q1, .int .i64 q2, .int .i64 q3, .int .i64 q4, .int .i64 q5, .int .i64 q6, .int .i64 q7, .int .i64 q8, .int .i64 q9, .int .i64 q10, .int .i64 q11] by rw [hqe]; rfl)
                clear hqe
                have mm := fun (V : World) (h : CApp (mb + 1) w6 wr.heap.size (costR e a i) ((List.range i).map (costR e a)) cvv V) => (show Blk V mb _ _ from (h.b.block mb (by omega)).trans BM6.out).c4
                have kx0 := fun (V : World) (h : CApp (mb + 1) w6 wr.heap.size (costR e a i) ((List.range i).map (costR e a)) cvv V) => (show V.cell? ⟨wr.heap.size, 0, none⟩ = some (.int .i64 q0) from by have h1 := h.x.cell 0; rw [HQE.out] at h1; exact h1)
                have kx1 := fun (V : World) (h : CApp (mb + 1) w6 wr.heap.size (costR e a i) ((List.range i).map (costR e a)) cvv V) => (show V.cell? ⟨wr.heap.size, 1, none⟩ = some (.int .i64 q1) from by have h1 := h.x.cell 1; rw [HQE.out] at h1; exact h1)
                have kx2 := fun (V : World) (h : CApp (mb + 1) w6 wr.heap.size (costR e a i) ((List.range i).map (costR e a)) cvv V) => (show V.cell? ⟨wr.heap.size, 2, none⟩ = some (.int .i64 q2) from by have h1 := h.x.cell 2; rw [HQE.out] at h1; exact h1)
                have kx3 := fun (V : World) (h : CApp (mb + 1) w6 wr.heap.size (costR e a i) ((List.range i).map (costR e a)) cvv V) => (show V.cell? ⟨wr.heap.size, 3, none⟩ = some (.int .i64 q3) from by have h1 := h.x.cell 3; rw [HQE.out] at h1; exact h1)
                have kx4 := fun (V : World) (h : CApp (mb + 1) w6 wr.heap.size (costR e a i) ((List.range i).map (costR e a)) cvv V) => (show V.cell? ⟨wr.heap.size, 4, none⟩ = some (.int .i64 q4) from by have h1 := h.x.cell 4; rw [HQE.out] at h1; exact h1)
                have kx5 := fun (V : World) (h : CApp (mb + 1) w6 wr.heap.size (costR e a i) ((List.range i).map (costR e a)) cvv V) => (show V.cell? ⟨wr.heap.size, 5, none⟩ = some (.int .i64 q5) from by have h1 := h.x.cell 5; rw [HQE.out] at h1; exact h1)
                have kx6 := fun (V : World) (h : CApp (mb + 1) w6 wr.heap.size (costR e a i) ((List.range i).map (costR e a)) cvv V) => (show V.cell? ⟨wr.heap.size, 6, none⟩ = some (.int .i64 q6) from by have h1 := h.x.cell 6; rw [HQE.out] at h1; exact h1)
                have kx7 := fun (V : World) (h : CApp (mb + 1) w6 wr.heap.size (costR e a i) ((List.range i).map (costR e a)) cvv V) => (show V.cell? ⟨wr.heap.size, 7, none⟩ = some (.int .i64 q7) from by have h1 := h.x.cell 7; rw [HQE.out] at h1; exact h1)
                have kx8 := fun (V : World) (h : CApp (mb + 1) w6 wr.heap.size (costR e a i) ((List.range i).map (costR e a)) cvv V) => (show V.cell? ⟨wr.heap.size, 8, none⟩ = some (.int .i64 q8) from by have h1 := h.x.cell 8; rw [HQE.out] at h1; exact h1)
                have kx9 := fun (V : World) (h : CApp (mb + 1) w6 wr.heap.size (costR e a i) ((List.range i).map (costR e a)) cvv V) => (show V.cell? ⟨wr.heap.size, 9, none⟩ = some (.int .i64 q9) from by have h1 := h.x.cell 9; rw [HQE.out] at h1; exact h1)
                have kx10 := fun (V : World) (h : CApp (mb + 1) w6 wr.heap.size (costR e a i) ((List.range i).map (costR e a)) cvv V) => (show V.cell? ⟨wr.heap.size, 10, none⟩ = some (.int .i64 q10) from by have h1 := h.x.cell 10; rw [HQE.out] at h1; exact h1)
                have kx11 := fun (V : World) (h : CApp (mb + 1) w6 wr.heap.size (costR e a i) ((List.range i).map (costR e a)) cvv V) => (show V.cell? ⟨wr.heap.size, 11, none⟩ = some (.int .i64 q11) from by have h1 := h.x.cell 11; rw [HQE.out] at h1; exact h1)
                refine wp_region_tame_cut (CApp (mb + 1) w6 wr.heap.size (costR e a i) ((List.range i).map (costR e a)) cvv) (RF enc12 12 125 ((mb + 1)) (((List.range i).map (costR e a)) ++ [(costR e a i)]) (costR e a i)) (by kernel_rfl) 75 rfl _ rfl (by decide +kernel) (by decide +kernel) (by decide +kernel) rfl (CC6.out.ext (Ext.refl _).drew HB6.out) ?_
                simp only [List.dropLast]
                repeat (apply tame_q rfl; (intro ρ W hC hr hD; (obtain ⟨hrc, hrg, hrf, hrs⟩ := hr); (simp [go_sem] at hD); go_simp; first | exact ⟨⟨hC, RF.refl _⟩, rfl⟩ | exact rfl); simp only [List.nil_append, List.cons_append])
                apply tame_v rfl (OneF enc12 125 (costR e a i)) (fun v V V' _ hR h => by obtain ⟨g, h1, h2⟩ := h; exact ⟨g, h1, hR.2.2.1 g h2⟩)
                · intro ρ V hC hr hD
                  obtain ⟨hrc, hrg, hrf, hrs⟩ := hr
                  simp [go_sem] at hD
                  go_simp
                  exact ⟨⟨hC.ext (Ext.al _ _) (Nat.le_trans HB6.out hC.b.size), RF.ext (Ext.al _ _)⟩, ⟨_, rfl, by rw [HQE.out]; exact Blk.new _ _ _⟩⟩
                simp only [List.nil_append, List.cons_append]
                apply tame_v rfl (NewF enc12 12 125 ((mb + 1)) (((List.range i).map (costR e a)) ++ [(costR e a i)])) (fun v V V' _ hR h => ⟨hR.2.1 _ (List.prefix_refl _) v h.1, h.2⟩)
                · intro ρ V hC hr hD
                  obtain ⟨hrc, hrg, hrf, hrs⟩ := hr
                  simp [go_sem] at hD
                  obtain ⟨d1, g, d2, d3⟩ := hD
                  obtain ⟨v', V', hrun, hnew, hR, hB⟩ := run_appF (t := 110) (ty := 110) (enc := enc12) (sz := 12) (m := [(costR e a i)]) (y := (costR e a i)) Tryd.underlying110 info125x rfl (by decide) (by decide) enc12_len enc12_1 hC.c (F := ((List.range i).map (costR e a)) ++ [(costR e a i)]) (List.prefix_refl _) (by simp; omega) (Nat.le_trans HB6.out hC.b.size) (Sl.single (c := 1) d3 (Nat.le_refl _) (by decide))
                  rw [← d2, ← d1] at hrun
                  show opGives _ _ _ _ _ _ _
                  unfold opGives execOp
                  simp only [resolve, invoke, builtin, Sem.run_bind, Sem.run_pure, Result.andThen_ok, List.map_toArray, List.map_cons, List.map_nil, hrun]
                  exact ⟨⟨⟨hC.b.trans hB, hR.2.2.1 _ hC.x, ⟨hR.2.1 _ (List.prefix_append _ _) _ hC.c.1, hC.c.2⟩⟩, hR⟩, hnew⟩
                simp only [List.nil_append, List.cons_append]
                repeat (apply tame_q rfl; (intro ρ W hC hr hD; (obtain ⟨hrc, hrg, hrf, hrs⟩ := hr); (simp [go_sem] at hD); go_simp; first | exact ⟨⟨hC, RF.refl _⟩, rfl⟩ | exact rfl); simp only [List.nil_append, List.cons_append])
                refine tame_end_put rfl rfl (fun ρ V hC hr hF => ?_)
                simp [go_sem] at hF
                obtain ⟨f1, f2, f3, f4, f5, f6, ⟨g25, f7, -⟩, hN, f9, f10⟩ := hF
                simp only [putF, f1, f2, f3, f4, f5, f6, f7, f9, f10, List.set_cons_succ, List.set_cons_zero]
                generalize ρ (Operand.tmp 54) = cv2 at *
                obtain ⟨A9, c9, e9, -⟩ := hN.2
                rw [show (((List.range i).map (costR e a)) ++ [(costR e a i)]).length = (i + 1) by simp] at e9
                subst e9
                have CN2 := Lib.hid hN
                have BM7 := Lib.hid (show Blk V mb _ _ from (hC.b.block mb (by omega)).trans BM6.out)
                have EB7 := Lib.hid hC.b
                clear f1 f2 f3 f4 f5 f6 f7 f9 f10 hN hr hC mm kx0 kx1 kx2 kx3 kx4 kx5 kx6 kx7 kx8 kx9 kx10 kx11
                have x0 := BM7.out.c4
                go_wp2
                have hbsz := EB7.out.size
                have HEV := Lib.hid (show Ext U V from ⟨EB7.out.os.trans (E6.out.os.trans EX.out.os), EB7.out.tape.trans (E6.out.tape.trans EX.out.tape), EB7.out.output.trans (E6.out.output.trans EX.out.output), by omega, fun i hi => (EB7.out.block i (by omega)).trans (((EX.out.trans E6.out)).block i hi)⟩)
                refine Handed.intro (n2 - (i + 1)) (by omega) (HJ2.out _ _ _ ⟨i + 1, .slice A9 (i + 1) c9, by omega, Nat.le_refl _, ⟨rfl, rfl, by simp [Act.eval]⟩, HEV.out.setCell (by dsimp only; omega) _, ?_, ?_⟩)
                · have := BM7.out.set_ 3 (.slice A9 (i + 1) c9)
                  simpa using this
                · have hc := CN2.out
                  rw [List.range_succ, List.map_append]
                  exact ⟨own_far hc.1 (by dsimp only; omega) _, hc.2⟩
            · have HE := Lib.hid (show i = n2 by omega)
              have HCL := Lib.hid (show ((List.range i).map (costR e a)).length = c.sales.length by rw [HE.out]; simp; exact hn2.out)
              obtain ⟨A9, c9, e9, -⟩ := CN.out.2
              subst e9
              go_wp2_with fail
              refine (closed_any (c := c) (f := progR e a) (C := (List.range i).map (costR e a)) HR.out (by have := HS10.out; omega) (costs_range i a HE2.out) HCL.out (progR_pos HE2.out a) BM.out (HHU.out.ext EX.out) (HSU.out.ext EX.out) (Own.sl enc12_len CN.out.1) ?_ ?_ ?_).mono ?_
              · intro h0 b o e
                have := HAB.out h0 b o e
                omega
              · intro h0 b o e
                have := HSB.out h0 b o e
                omega
              · intro h0 b o e
                rcases own_form CN.out.1 with ⟨_, h1⟩ | ⟨g, cap, cur, h1, h2, h3, _⟩
                · rw [h1] at h0; simp at h0
                · rw [e] at h1
                  injection h1 with h1
                  injection h1 with h1
                  injection h1 with h1 _ _
                  omega
              rintro e' w' ⟨gm, m, ⟨v, rfl⟩, hG, hB, hgm, hRM, hO⟩
              have hml : m.length = c.sales.length := by rw [feas_len hO.1, at_len]
              have hv := range_prog HR.out HE2.out HHA.out hO (HEK.out ▸ HVV.out k hlt)
              have hva : m[a]? = some (vv k) := by
                have h1 : a < m.length := by rw [hml]; exact HHA.out
                rw [List.getElem?_eq_getElem h1] at hv ⊢
                exact congrArg some hv
              have hmn : a < m.length := by rw [hml]; exact HHA.out
              have hmz : (a : Int) < (m.length : Int) := by omega
              have HG := Lib.hid hG; have HB := Lib.hid hB; have HRM := Lib.hid hRM
              have DW := Lib.hid ((DU.out.ext EX.out).grown hG (by intro e; injection e with e; omega))
              have G4 := Lib.hid (show w4.grownBy w' (some w3.heap.size) from grown_far (grown_ext GU.out EX.out) hG (by omega))
              obtain ⟨b0, b1, b2, b3, bf, bl⟩ := hB.c4
              have cm := hRM.cell hva
              obtain ⟨d0, d1, df, dl⟩ := DW.out.c2
              obtain ⟨uk, duk⟩ : ∃ u, w'.cell? ⟨w3.heap.size, k, none⟩ = some u := by
                match k, hlt, d0, d1 with
                | 0, _, d0, _ => exact ⟨_, d0⟩
                | 1, _, _, d1 => exact ⟨_, d1⟩
              have HKN := Lib.hid (show Blk (w'.setCell ⟨w3.heap.size, k, none⟩ (.int .i64 (vv k))) w3.heap.size 123 #[.int .i64 (if 0 < k + 1 then vv 0 else 0), .int .i64 (if 1 < k + 1 then vv 1 else 0)] from by
                have h := DW.out.set_ k (.int .i64 (vv k))
                match k, hlt with
                | 0, _ => simpa using h
                | 1, _ => simpa using h)
              clear hG hB hRM hO hv hva d0 d1
              go_wp2
              exact Handed.intro (2 - (k + 1)) (by omega) (HJ.out _ _ _ ⟨k + 1, by omega, Nat.le_refl _, ⟨rfl, rfl, by simp [Act.eval]⟩, grown_set G4.out (p := ⟨w3.heap.size, k, none⟩) (.inl rfl) _, HKN.out⟩)
        · have HE := Lib.hid (show k = 2 by omega)
          obtain ⟨d0, d1, -, -⟩ := DU.out.c2
          obtain ⟨e0, e1, ef, el⟩ := CU.out.c2
          rw [HE.out] at d0 d1
          simp only [if_pos (show 0 < 2 by omega), if_pos (show 1 < 2 by omega), HV01.out.1, HV01.out.2] at d0 d1
          go_wp2
          refine ret_span rfl CU.out rfl rfl rfl fun W hG => ?_
          rw [HE0.out]
          exact ⟨rfl, ext_grown (ext_grown (E3.out.trans E4.out) GU.out (by omega)) hG (by omega)⟩
end Go.Proofs.YtafdbgielmlihaaDoor
/- The law ChainProves: the walk. -/
namespace Go.Proofs.YtafdbgielmlihaaDoor
open Go.RowKit Go.Shelf Go.Lib
set_option maxRecDepth 100000
set_option linter.unusedSimpArgs false

theorem proofOf_exists {c : Chn} {l : List Int} (hcl : CloseOf c l) : ∃ P, ProofOf c l P := by
  cases hc : checkP c with
  | false => exact ⟨[], ⟨fun h => by (rw [hc] at h; cases h), fun _ => rfl⟩⟩
  | true =>
    obtain ⟨π, hT, h6⟩ := top_small (check_right hc).1 (check_right hc).2 (hcl.1 hc)
    obtain ⟨P, hP⟩ := pr_exists hT (fun v => (h6 v).1)
    exact ⟨P, ⟨fun _ => hP, fun h => by (rw [hc] at h; cases h)⟩⟩
theorem und48p : Tryd.prog.underlying 48 = some (.struct (Tryd.prog.fieldsOf 48)) := by kernel_rfl
theorem held48p : Tryd.prog.stoodInHeld 48 = false := by kernel_rfl
theorem eql48s (a b : Int) (w : World) : (binOp .eql 48 (.agg #[.int .i64 a, .int .i64 b]) (.agg #[.int .i64 a, .int .i64 b])).run Tryd.prog w = .ok (.bool true) w := by
  have u3 := Tryd.underlying3
  have a3 := Tryd.isAgg3
  have z3 := Tryd.sizeOf3
  rw [run_eql_struct, show (10000 : Nat) = 9999 + 1 from rfl, run_equalIn_agg w 9999 48 _ _ und48p held48p]
  simp only [Program.fieldsOf, Tryd.underlying48]
  go_simp
set_option maxHeartbeats 4000000 in
theorem provesLaw_any (c : Chn) (x1 : Int) (hv sv : Value) (w : World) (hT : Tab w) (hh : SlI w hv c.houses) (hs : SlL w sv c.sales) :
    Calls Tryd.prog 5 #[valC hv sv, .int .i64 x1] w fun e w' => e = .returned (.bool true) ∧ Ext w w' := by
  have HT := Lib.hid hT
  have HH := Lib.hid hh; have HS := Lib.hid hs
  obtain ⟨A, n, cp, rfl, hn, hlc, hcm⟩ := hh.form
  obtain ⟨A2, n2, cp2, rfl, hn2, hlc2, hcm2⟩ := hs.form
  obtain ⟨l, hcl⟩ := closeOf_exists c
  have HCL := Lib.hid hcl
  obtain ⟨P, hpr⟩ := proofOf_exists hcl
  have HPR := Lib.hid hpr
  obtain ⟨lo, hi, hrg⟩ := rangeOf_exists c x1
  have HRG := Lib.hid hrg
  clear hpr hrg
  clear hh hs hT hcl
  go_enter Tryd.func5, Tryd.ntmps5
  go_wp2_with fail
  generalize hw0 : (w.alloc (.cells #[.slice A n cp, .slice A2 n2 cp2] 25)) = w0
  have HE0 := Lib.hid (show Ext w w0 from hw0 ▸ Ext.al _ _)
  have HB0 := Lib.hid (show Blk w0 w.heap.size 25 #[.slice A n cp, .slice A2 n2 cp2] from hw0 ▸ Blk.new _ _ _)
  clear hw0
  refine (great_any c _ _ _ (HH.out.ext HE0.out) (HS.out.ext HE0.out)).mono ?_
  rintro e w1 ⟨rfl, hE⟩
  have HE1 := Lib.hid (HE0.out.trans hE)
  have HB1 := Lib.hid (HB0.out.ext hE)
  clear hE HB0
  cases hg : greatB c with
  | true =>
    go_wp2
    go_ret
    exact ⟨rfl, HE1.out⟩
  | false =>
    have hlen : c.houses.length ≤ 15 ∧ c.sales.length ≤ 30 := by
      unfold greatB at hg; simp at hg; omega
    clear hg
    have HLE := Lib.hid hlen; clear hlen
    have x0 := HB1.out.c2
    go_wp2_with fail
    clear x0
    refine (twin_any c _ _ _ (HH.out.ext HE1.out) (HS.out.ext HE1.out) (by have := HLE.out; omega) (by have := HLE.out; omega)).mono ?_
    rintro e w2 ⟨⟨v, rfl, tv⟩, hE2⟩
    obtain ⟨dv, wv, rfl, o1, o2⟩ := tv
    obtain ⟨Ad, nd, cd, rfl, -, -, -⟩ := (show SlI w2 dv c.houses from o1.sl (fun _ => rfl)).form
    obtain ⟨Aw, nw, cw, rfl, -, -, -⟩ := (show SlL w2 wv c.sales from o2.sl (fun _ => rfl)).form
    have HTD := Lib.hid (show SlI w2 (.slice Ad nd cd) c.houses from o1.sl (fun _ => rfl))
    have HTW := Lib.hid (show SlL w2 (.slice Aw nw cw) c.sales from o2.sl (fun _ => rfl))
    have HE2 := Lib.hid (HE1.out.trans hE2)
    have HBx := Lib.hid (HB1.out.ext hE2)
    clear o1 o2 hE2 HB1 HE0 HE1
    dsimp only [valC]
    go_wp2_with fail
    have S := Lib.hid (show CsT c w w2.heap.size (.slice A n cp) (.slice A2 n2 cp2) (.slice Ad nd cd) (.slice Aw nw cw) (w2.alloc (.cells #[.slice Ad nd cd, .slice Aw nw cw] 25)) from
      ⟨HE2.out.alloc _, HBx.out.alloc _, Blk.new _ _ _, (HT.out.ext HE2.out).ext (Ext.al _ _), (HH.out.ext HE2.out).ext (Ext.al _ _), (HS.out.ext HE2.out).ext (Ext.al _ _), HTD.out.ext (Ext.al _ _), HTW.out.ext (Ext.al _ _)⟩)
    clear HT HH HS HTD HTW HBx HE2
    refine (proof_any c l P _ _ _ HCL.out HPR.out S.out.t S.out.b1 S.out.b2 (by have := HLE.out; omega)).mono ?_
    rintro e w3 ⟨⟨v1, rfl, hv1⟩, hE⟩
    have L1 := Lib.hid hv1; replace S := Lib.hid (S.out.ext hE)
    clear hv1 hE
    have x0 := S.out.p.c2
    go_wp2_with fail
    clear x0
    refine (refProof_any c l P _ _ _ HCL.out HPR.out S.out.a1 S.out.a2).mono ?_
    rintro e w4 ⟨⟨v2, rfl, hv2⟩, hE⟩
    have L2 := Lib.hid hv2; replace L1 := Lib.hid (L1.out.ext hE); replace S := Lib.hid (S.out.ext hE)
    clear hv2 hE
    have x0 := S.out.q.c2
    go_wp2_with fail
    clear x0
    refine (range_any c x1 lo hi _ _ _ HRG.out S.out.t S.out.b1 S.out.b2 (by have := HLE.out; omega)).mono ?_
    rintro e w5 ⟨rfl, hE⟩
    replace L1 := Lib.hid ((L1.out.ext hE).ext (Ext.al _ (.cells #[.int .i64 lo, .int .i64 hi] 48))); replace L2 := Lib.hid ((L2.out.ext hE).ext (Ext.al _ (.cells #[.int .i64 lo, .int .i64 hi] 48))); replace S := Lib.hid ((S.out.ext hE).ext (Ext.al _ (.cells #[.int .i64 lo, .int .i64 hi] 48)))
    have T1 := Lib.hid (show Blk (w5.alloc (.cells #[.int .i64 lo, .int .i64 hi] 48)) w5.heap.size 48 #[.int .i64 lo, .int .i64 hi] from Blk.new _ _ _)
    clear hE
    have x0 := S.out.p.c2
    go_wp2_with fail
    clear x0
    refine (refRange_any c x1 lo hi _ _ _ HRG.out S.out.a1 S.out.a2).mono ?_
    rintro e w6 ⟨rfl, hE⟩
    replace L1 := Lib.hid ((L1.out.ext hE).ext (Ext.al _ (.cells #[.int .i64 lo, .int .i64 hi] 48))); replace L2 := Lib.hid ((L2.out.ext hE).ext (Ext.al _ (.cells #[.int .i64 lo, .int .i64 hi] 48))); replace S := Lib.hid ((S.out.ext hE).ext (Ext.al _ (.cells #[.int .i64 lo, .int .i64 hi] 48)))
    replace T1 := Lib.hid ((T1.out.ext hE).ext (Ext.al _ (.cells #[.int .i64 lo, .int .i64 hi] 48)))
    have T2 := Lib.hid (show Blk (w6.alloc (.cells #[.int .i64 lo, .int .i64 hi] 48)) w6.heap.size 48 #[.int .i64 lo, .int .i64 hi] from Blk.new _ _ _)
    clear hE
    have eq1 := eql48s
    generalize rangeE c x1 = re
    go_wp2_with fail
    refine (sameInts_any P _ _ _ L1.out L2.out).mono ?_
    rintro e w7 ⟨rfl, hE⟩
    replace S := Lib.hid (S.out.ext hE); replace T1 := Lib.hid (T1.out.ext hE); replace T2 := Lib.hid (T2.out.ext hE)
    clear hE
    have x0 := S.out.p.c2
    have x1' := S.out.q.c2
    have t1 := T1.out.c2
    have t2 := T2.out.c2
    go_wp2_with fail
    clear x0 x1' t1 t2
    refine (same_any c _ _ _ _ _ S.out.b1 S.out.b2 S.out.a1 S.out.a2).mono ?_
    rintro e w8 ⟨rfl, hE⟩
    replace S := Lib.hid (S.out.ext hE)
    clear hE
    go_wp2
    go_ret
    exact ⟨rfl, S.out.e⟩
end Go.Proofs.YtafdbgielmlihaaDoor
