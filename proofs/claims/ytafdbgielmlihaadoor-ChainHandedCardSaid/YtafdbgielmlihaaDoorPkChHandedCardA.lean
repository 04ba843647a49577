/- What the houses are owed, in new memory. -/
import Derived.Test.YtafdbgielmlihaaDoorPkChLeastCardN
import Derived.Test.YtafdbgielmlihaaDoorPkChLeastCardD
import Derived.Test.YtafdbgielmlihaaDoorPkChLeastCardO
import Derived.Test.YtafdbgielmlihaaDoorPkChLeastCardR
namespace Go.Proofs.YtafdbgielmlihaaDoor
open Go.RowKit Go.Shelf Go.Lib
set_option maxRecDepth 100000
set_option linter.unusedSimpArgs false

set_option maxHeartbeats 1000000 in
theorem owed_own (c : Chn) (hc : checkP c = true) (hv sv : Value) (w : World) (hT : Tab w) (hh : SlI w hv c.houses) (hs : SlL w sv c.sales) :
    Calls Tryd.prog 20 #[valC hv sv] w fun e w' => (∃ g, e = .returned (.tuple #[.slice (some ⟨g, 0, none⟩) c.houses.length c.houses.length, .int .i64 0]) ∧ w.heap.size ≤ g ∧ RowI w' g (getsL c (balesOf c))) ∧ Ext w w' := by
  have hl : c.sales.length ≤ 1000 := by have := (check_right hc).2; omega
  have HT := Lib.hid hT; have HH := Lib.hid hh; have HS := Lib.hid hs; have HL := Lib.hid hl
  obtain ⟨A, n, cp, rfl, -, -, -⟩ := hh.form
  obtain ⟨A2, n2, cp2, rfl, -, -, -⟩ := hs.form
  clear hh hs hT hl
  go_enter Tryd.func20, Tryd.ntmps20
  have B0 := Lib.hid (show Blk (w.alloc (.cells #[.slice A n cp, .slice A2 n2 cp2] 25)) w.heap.size 25 #[.slice A n cp, .slice A2 n2 cp2] from Blk.new _ _ _)
  go_wp2_with fail
  refine (check_any c _ _ _ (HT.out.ext (Ext.al _ _)) (HH.out.ext (Ext.al _ _)) (HS.out.ext (Ext.al _ _)) HL.out).mono ?_
  rintro e w1 ⟨rfl, hE⟩
  have E1 := Lib.hid ((Ext.al w _).trans hE)
  have B1 := Lib.hid (B0.out.ext hE)
  clear hE
  have HGL := Lib.hid (show (getsL c (balesOf c)).length = c.houses.length by simp [getsL])
  have HR := Lib.hid (check_right hc).1
  have HS10 := Lib.hid (check_right hc).2
  have HCK := Lib.hid hc
  clear hc
  rw [HCK.out]
  dsimp only [errB]
  have m0 := fun W (h : Ext w1 W) => (B1.out.ext h).c2
  go_wp2
  refine wp_region_tame (fun W => Ext w1 W) (fun W W' => Ext W W') (by kernel_rfl) 16 rfl (by decide +kernel) (Ext.refl _).drew ?_
  repeat (apply tame_q rfl; (intro ρ W hC hr hD; (obtain ⟨hrc, hrg, hrf, hrs⟩ := hr); (simp [go_sem] at hD); go_simp; first | exact ⟨⟨hC, Ext.refl _⟩, rfl⟩ | exact ⟨⟨hC, RS.refl _⟩, rfl⟩ | exact rfl); simp only [List.nil_append, List.cons_append])
  apply tame_v rfl (FreshM w1.heap.size (.slice A n cp) (.slice A2 n2 cp2)) (fun v W W' _ hE h => h.ext hE)
  · intro ρ W hC hr hD
    obtain ⟨hrc, hrg, hrf, hrs⟩ := hr
    simp [go_sem] at hD
    go_simp
    exact ⟨⟨hC.alloc _, Ext.al _ _⟩, ⟨_, rfl, hC.size, Blk.new _ _ _⟩⟩
  simp only [List.nil_append, List.cons_append]
  repeat (apply tame_q rfl; (intro ρ W hC hr hD; (obtain ⟨hrc, hrg, hrf, hrs⟩ := hr); (simp [go_sem] at hD); go_simp; first | exact ⟨⟨hC, Ext.refl _⟩, rfl⟩ | exact ⟨⟨hC, RS.refl _⟩, rfl⟩ | exact rfl); simp only [List.nil_append, List.cons_append])
  apply tame_v rfl (fun v W => SlI W v (balesOf c)) (fun v W W' _ hE h => h.ext hE)
  · intro ρ W hC hr hD
    obtain ⟨hrc, hrg, hrf, hrs⟩ := hr
    simp [go_sem] at hD
    go_simp
    refine (f72_any c _ _ W (HH.out.ext (E1.out.trans hC)) (HS.out.ext (E1.out.trans hC)) (by have := HS10.out; omega)).mono ?_
    rintro e w' ⟨⟨v', rfl, ho⟩, hE⟩
    exact ⟨_, rfl, ⟨hC.trans hE, hE⟩, ho.sl (fun _ => rfl)⟩
  simp only [List.nil_append, List.cons_append]
  apply tame_v rfl (RowV w1.heap.size (getsL c (balesOf c))) (fun v W W' _ hE h => h.ext hE)
  · intro ρ W hC hr hD
    obtain ⟨hrc, hrg, hrf, hrs⟩ := hr
    simp [go_sem] at hD
    obtain ⟨⟨mb, d1, d2, d3⟩, d4⟩ := hD
    have hz := hC.size
    clear m0
    go_simp
    refine (mgets_any c (balesOf c) mb _ _ _ _ _ W d3 (HH.out.ext (E1.out.trans hC)) (HS.out.ext (E1.out.trans hC)) d4 HR.out (by have := HS10.out; omega) (bales_len c) (bales_bd HR.out)).mono ?_
    rintro e w' ⟨⟨g, rfl, hg, hr⟩, hE⟩
    exact ⟨_, rfl, ⟨hC.trans hE, hE⟩, ⟨g, rfl, by omega, hr⟩⟩
  simp only [List.nil_append, List.cons_append]
  apply tame_v rfl (RowV w1.heap.size (getsL c (balesOf c))) (fun v W W' _ hE h => h.ext hE)
  · intro ρ W hC hr hD
    obtain ⟨hrc, hrg, hrf, hrs⟩ := hr
    simp [go_sem] at hD
    go_simp
    exact ⟨hC, Ext.refl _⟩
  simp only [List.nil_append, List.cons_append]
  repeat (apply tame_q rfl; (intro ρ W hC hr hD; (obtain ⟨hrc, hrg, hrf, hrs⟩ := hr); (simp [go_sem] at hD); go_simp; first | exact ⟨⟨hC, Ext.refl _⟩, rfl⟩ | exact ⟨⟨hC, RS.refl _⟩, rfl⟩ | exact rfl); simp only [List.nil_append, List.cons_append])
  refine tame_end_put rfl rfl (fun ρ W hC hr hF => ?_)
  simp [go_sem] at hF
  obtain ⟨f1, f2, -, f4, -, -, ⟨g, f7, hgb, hRL⟩, f8⟩ := hF
  simp only [putF, f1, f2, f4, f7, f8, List.set_cons_succ, List.set_cons_zero]
  generalize ρ (Operand.tmp 12) = v12
  generalize ρ (Operand.tmp 14) = v14
  generalize ρ (Operand.tmp 15) = v15
  have EW := Lib.hid (E1.out.trans hC)
  have hz1 := E1.out.size
  have RL := Lib.hid hRL
  clear f1 f2 f4 f7 f8 hr hC hRL m0
  have h6 := HR.out.h6
  go_wp2
  go_ret2
  exact ⟨⟨g, by rw [HGL.out]; rfl, by omega, RL.out⟩, EW.out⟩
end Go.Proofs.YtafdbgielmlihaaDoor
/- Close: its list lies in new memory. -/
namespace Go.Proofs.YtafdbgielmlihaaDoor
open Go.RowKit Go.Shelf Go.Lib
set_option maxRecDepth 100000
set_option linter.unusedSimpArgs false

/-- A list in new memory, its sum and an error. -/
def SumN (l : List Int) (E : Int) (w : World) (e : Ending) (w' : World) : Prop := (∃ v, e = .returned (.tuple #[v, .int .i64 (sumI l), .int .i64 E]) ∧ SlI w' v l ∧ NewAt w.heap.size v) ∧ Ext w w'
set_option maxHeartbeats 1000000 in
theorem close_own (c : Chn) (l : List Int) (hv sv : Value) (w : World) (hcl : CloseOf c l) (hT : Tab w) (hh : SlI w hv c.houses) (hs : SlL w sv c.sales) (hl : c.sales.length ≤ 1000) :
    Calls Tryd.prog 22 #[valC hv sv] w (SumN l (errB (checkP c) 60) w) := by
  have HT := Lib.hid hT; have HH := Lib.hid hh; have HS := Lib.hid hs; have HL := Lib.hid hl
  obtain ⟨A, n, cp, rfl, -, -, -⟩ := hh.form
  obtain ⟨A2, n2, cp2, rfl, -, -, -⟩ := hs.form
  clear hh hs hT hl
  cases hc : checkP c with
  | false =>
    have HO := Lib.hid (hcl.2 hc)
    clear hcl
    have HCK := Lib.hid hc
    clear hc
    go_enter Tryd.func22, Tryd.ntmps22
    go_wp2_with fail
    refine (opened_no c _ _ _ (HT.out.ext (Ext.al _ _)) (HH.out.ext (Ext.al _ _)) (HS.out.ext (Ext.al _ _)) HL.out HCK.out).mono ?_
    rintro e w1 ⟨rfl, hE⟩
    have E1 := Lib.hid ((Ext.al w _).trans hE); clear hE
    go_wp2
    go_ret3
    exact ⟨⟨.slice none 0 0, by rw [HO.out]; rfl, by rw [HO.out]; exact Sl.nil _, NewAt.nil _ _⟩, E1.out⟩
  | true =>
    have HO := Lib.hid (hcl.1 hc)
    have HCLO := Lib.hid hcl
    clear hcl
    have HCK := Lib.hid hc
    have HR := Lib.hid (check_right hc).1
    have HS10 := Lib.hid (check_right hc).2
    clear hc
    go_enter Tryd.func22, Tryd.ntmps22
    go_wp2_with fail
    refine (opened_yes c l _ _ _ HCLO.out (HT.out.ext (Ext.al _ _)) (HH.out.ext (Ext.al _ _)) (HS.out.ext (Ext.al _ _)) HCK.out).mono ?_
    rintro e w1 ⟨mb, gm, hv', sv', cv', rfl, hE, h1, h2, h3, h4, h5, h6⟩
    have E1 := Lib.hid ((Ext.al w _).trans hE)
    have BM := Lib.hid h3; have RM := Lib.hid h4
    have HLN := Lib.hid (close_len HO.out)
    have RS := Lib.hid (show SlI w1 (.slice (some ⟨gm, 0, none⟩) c.sales.length c.sales.length) l from by rw [← HLN.out]; exact h4.sl (by unfold maxLen; rw [HLN.out]; have := HS10.out; omega))
    have HGM := Lib.hid (show w.heap.size ≤ gm by rw [World.size_alloc] at h2; omega)
    clear hE h3 h4 h5 h6
    have m0 := fun W (h : Ext w1 W) => (BM.out.ext h).c4
    go_wp2
    refine wp_region_tame (fun W => Ext w1 W) (fun W W' => Ext W W') (by kernel_rfl) 24 rfl (by decide +kernel) (Ext.refl _).drew ?_
    repeat (apply tame_q rfl; (intro ρ W hC hr hD; (obtain ⟨hrc, hrg, hrf, hrs⟩ := hr); (simp [go_sem] at hD); go_simp; first | exact ⟨⟨hC, Ext.refl _⟩, rfl⟩ | exact ⟨⟨hC, RS.refl _⟩, rfl⟩ | exact rfl); simp only [List.nil_append, List.cons_append])
    apply tame_q rfl
    · intro ρ W hC hr hD
      obtain ⟨hrc, hrg, hrf, hrs⟩ := hr
      simp [go_sem] at hD
      go_simp
      refine (f75_any l _ W (RS.out.ext hC) (close_mild HR.out HO.out (by have := HS10.out; omega))).mono ?_
      rintro e w' ⟨rfl, hE⟩
      exact ⟨_, rfl, ⟨hC.trans hE, hE⟩, rfl⟩
    simp only [List.nil_append, List.cons_append]
    repeat (apply tame_q rfl; (intro ρ W hC hr hD; (obtain ⟨hrc, hrg, hrf, hrs⟩ := hr); (simp [go_sem] at hD); go_simp; first | exact ⟨⟨hC, Ext.refl _⟩, rfl⟩ | exact ⟨⟨hC, RS.refl _⟩, rfl⟩ | exact rfl); simp only [List.nil_append, List.cons_append])
    refine tame_end_put rfl rfl (fun ρ W hC hr hF => ?_)
    simp [go_sem] at hF
    simp only [putF, hF, List.set_cons_succ, List.set_cons_zero]
    clear hF hr
    have EW := Lib.hid (E1.out.trans hC)
    have RW := Lib.hid (RS.out.ext hC)
    clear hC m0
    go_wp2
    go_ret3
    exact ⟨⟨.slice (some ⟨gm, 0, none⟩) c.sales.length c.sales.length, rfl, RW.out, NewAt.at_ HGM.out⟩, EW.out⟩
end Go.Proofs.YtafdbgielmlihaaDoor
/- ChainSums, plain: what all get is nothing together; a price higher by one. -/
namespace Go.Proofs.YtafdbgielmlihaaDoor
open Go.RowKit Go.Shelf
set_option linter.unusedSimpArgs false

theorem net_plus (v : Nat) : ∀ (S : List Sal) (m d e : List Int), m.length = S.length → d.length = S.length → e.length = S.length → (∀ (i : Nat) (a b : Int), m[i]? = some a → d[i]? = some b → e[i]? = some (a + b)) → net S e v = net S m v + net S d v
  | [], [], [], [], _, _, _, _ => by simp [net]
  | x :: S, a :: m, b :: d, z :: e, h1, h2, h3, h => by
    have h0 := h 0 a b rfl rfl
    simp at h0
    have := net_plus v S m d e (by simpa using h1) (by simpa using h2) (by simpa using h3) fun i a b ha hb => h (i + 1) a b ha hb
    simp only [net]
    rw [this, h0, Int.add_mul]
    omega
  | x :: S, [], _, _, h1, _, _, _ => by simp at h1
  | x :: S, _ :: _, [], _, _, h2, _, _ => by simp at h2
  | x :: S, _ :: _, _ :: _, [], _, _, h3, _ => by simp at h3
  | [], _ :: _, _, _, h1, _, _, _ => by simp at h1
  | [], [], _ :: _, _, _, h2, _, _ => by simp at h2
  | [], [], [], _ :: _, _, _, h3, _ => by simp at h3
/-- What does not move. -/
def stayL (c : Chn) (l : List Int) : List Int := (c.sales.zip l).map fun q => q.1.bales - q.2
theorem stayL_get {c : Chn} {l : List Int} {k : Nat} {x : Sale} {y : Int} (hx : c.sales[k]? = some x) (hy : l[k]? = some y) : (stayL c l)[k]? = some (x.bales - y) := by
  unfold stayL
  rw [List.getElem?_map, (List.getElem?_zip_eq_some (z := (x, y))).2 ⟨hx, hy⟩]
  rfl
theorem stayL_len {c : Chn} {l : List Int} (h : l.length = c.sales.length) : (stayL c l).length = c.sales.length := by
  unfold stayL
  rw [List.length_map, List.length_zip, h, Nat.min_self]
theorem pays_more {c : Chn} {l : List Int} (hl : l.length = c.sales.length) (p : Int) (v : Nat) : net (salsOf c) (payN c l (p + 1)) v = net (salsOf c) (payN c l p) v + net (salsOf c) (stayL c l) v := by
  refine net_plus v _ _ _ _ (by rw [payN_len hl, sals_len]) (by rw [stayL_len hl, sals_len]) (by rw [payN_len hl, sals_len]) fun i a b ha hb => ?_
  have hi : i < c.sales.length := by rw [← payN_len hl p]; exact (List.getElem?_eq_some_iff.1 ha).1
  have hx := List.getElem?_eq_getElem hi
  have hy := List.getElem?_eq_getElem (show i < l.length by omega)
  rw [payN_get hx hy] at ha
  rw [stayL_get hx hy] at hb
  rw [payN_get hx hy]
  injection ha with ha
  injection hb with hb
  subst ha hb
  congr 1
  have e : (c.sales[i].price - (p + 1)) * (c.sales[i].bales - l[i]) = (c.sales[i].price - p) * (c.sales[i].bales - l[i]) - (c.sales[i].bales - l[i]) := by
    rw [show c.sales[i].price - (p + 1) = (c.sales[i].price - p) - 1 by omega, Int.sub_mul, Int.one_mul]
  omega
theorem sumI_map (f : Nat → Int) (n : Nat) : sumI ((List.range n).map f) = sumN n f := by
  have app : ∀ (a b : List Int), sumI (a ++ b) = sumI a + sumI b := fun a => by
    induction a with
    | nil => intro b; simp [sumI]
    | cons x a ih => intro b; simp only [List.cons_append, sumI]; rw [ih]; omega
  induction n with
  | zero => simp [sumI, sumN]
  | succ n ih =>
    rw [List.range_succ, List.map_append, app, ih]
    simp [sumI, sumN]
theorem gets_zero {c : Chn} (hR : Right c) (m : List Int) : sumI (getsL c m) = 0 := by
  unfold getsL
  rw [sumI_map]
  exact net_total (sals_lt hR) m
theorem gets_get {c : Chn} {m : List Int} {v : Nat} {y : Int} (h : (getsL c m)[v]? = some y) : v < c.houses.length ∧ y = net (salsOf c) m v := by
  unfold getsL at h
  rw [List.getElem?_map] at h
  obtain ⟨z, hz, rfl⟩ := Option.map_eq_some_iff.1 h
  obtain ⟨hz1, hz2⟩ := List.getElem?_eq_some_iff.1 hz
  simp at hz1 hz2
  subst hz2
  exact ⟨hz1, rfl⟩
theorem gets_at {c : Chn} {m : List Int} {v : Nat} (h : v < c.houses.length) : (getsL c m)[v]? = some (net (salsOf c) m v) := by
  simp [getsL, h]
theorem getsZ_len (c : Chn) (m : List Int) : (getsL c m).length = c.houses.length := by simp [getsL]
theorem owed_bd {c : Chn} (hR : Right c) (hN : c.sales.length ≤ 10) (v : Nat) : -100 ≤ net (salsOf c) (balesOf c) v ∧ net (salsOf c) (balesOf c) v ≤ 100 := by
  have h1 := net_bd (B := 9) v (by decide) (salsOf c) (balesOf c) fun z hz => by
    unfold balesOf at hz
    obtain ⟨x, hx, rfl⟩ := List.mem_map.1 hz
    have := (hR.sale x hx).2.2.2.1
    omega
  have h2 : (balesOf c).length = c.sales.length := by simp [balesOf]
  omega
theorem pays_bd {c : Chn} {l : List Int} (hR : Right c) (hN : c.sales.length ≤ 10) (hl : Closes c l) {p : Int} (hp : 0 ≤ p ∧ p ≤ 1000000) (v : Nat) : -100000000 ≤ net (salsOf c) (payN c l p) v ∧ net (salsOf c) (payN c l p) v ≤ 100000000 := by
  have h1 := net_bd (B := 9000000) v (by decide) (salsOf c) (payN c l p) fun z hz => by
    obtain ⟨i, hi⟩ := List.getElem?_of_mem hz
    have hlt : i < c.sales.length := by rw [← payN_len hl.len p]; exact (List.getElem?_eq_some_iff.1 hi).1
    have hx := List.getElem?_eq_getElem hlt
    have hy := List.getElem?_eq_getElem (show i < l.length by rw [hl.len]; exact hlt)
    rw [payN_get hx hy] at hi
    injection hi with hi
    have b1 := hl.bd i _ _ hx hy
    obtain ⟨-, -, -, b2, b3⟩ := hR.sale _ (List.getElem_mem hlt)
    have hll := hl.len
    have hil : i < l.length := by omega
    have := mul_bd (a := c.sales[i].price - p) (b := c.sales[i].bales - l[i]) (A := 1000000) (B := 9) (by omega) (by omega) (by omega)
    omega
  have h2 : (payN c l p).length = c.sales.length := payN_len hl.len p
  omega
end Go.Proofs.YtafdbgielmlihaaDoor
/- ChainHanded, plain: each house hands out what it owes, and gets what it is owed; by no more sales than move. -/
namespace Go.Proofs.YtafdbgielmlihaaDoor
open Go.RowKit Go.Shelf
set_option linter.unusedSimpArgs false

theorem follow_end {c : Chn} : ∀ (k : Nat) (m : List Int) (h : Int), mu m ≤ k → onK c (follow c m h).1 (follow c m h).2 = none := by
  intro k
  induction k with
  | zero =>
    intro m h hk
    cases ho : onK c m h with
    | none => rw [follow_stop ho]; exact ho
    | some i =>
      obtain ⟨x, y, h1, h2, -, h4⟩ := on_ok ho
      have := mu_set m i y h2 h4
      omega
  | succ k ih =>
    intro m h hk
    cases ho : onK c m h with
    | none => rw [follow_stop ho]; exact ho
    | some i =>
      obtain ⟨x, y, h1, h2, -, h4⟩ := on_ok ho
      have hm := mu_set m i y h2 h4
      rw [follow_step ho h1 h2]
      exact ih _ _ (by omega)
theorem on_noneZ {c : Chn} {m : List Int} {h : Int} (ho : onK c m h = none) {i : Nat} {x : Sale} {y : Int} (hx : c.sales[i]? = some x) (hy : m[i]? = some y) (hs : x.seller = h) : y ≤ 0 := by
  unfold onK at ho
  rw [List.findIdx?_eq_none_iff] at ho
  have := ho (x, y) (List.mem_of_getElem? (List.getElem?_zip_eq_some.2 ⟨hx, hy⟩))
  unfold onB at this
  simp [hs] at this
  omega
theorem bump_setZ {m : List Int} {i : Nat} {y : Int} (h : m[i]? = some y) (δ : Int) : m.set i (y + δ) = bump m i δ := by
  have hi := (List.getElem?_eq_some_iff.1 h).1
  apply List.ext_getElem?
  intro j
  rw [bump_get, List.getElem?_set]
  by_cases e : i = j
  · subst e
    rw [if_pos rfl, if_pos hi, h]; simp
  · rw [if_neg e]
    cases m[j]? <;> simp [e]
/-- A bale has gone from the one house to the other. -/
structure Fol (c : Chn) (m0 : List Int) (h0 : Int) (m : List Int) (h : Int) : Prop where
  mv : Mvs c m
  hh : h ∈ c.houses
  way : ∃ L, Goes c h h0 L ∧ sumI m + L.length = sumI m0
  net : ∀ v, net (salsOf c) m v = net (salsOf c) m0 v + one ((houseI c h0).toNat = v) - one ((houseI c h).toNat = v)
  le : ∀ (i : Nat) (y : Int), m[i]? = some y → ∃ y0, m0[i]? = some y0 ∧ y ≤ y0
theorem fol {c : Chn} (hR : Right c) {m : List Int} {h : Int} (hm : Mvs c m) (hh : h ∈ c.houses) : Fol c m h (follow c m h).1 (follow c m h).2 := by
  have sumset : ∀ (m : List Int) (i : Nat) (y : Int), m[i]? = some y → sumI (m.set i (y - 1)) + 1 = sumI m := by
    intro m
    induction m with
    | nil => intro i y hy; simp at hy
    | cons z m ih =>
      intro i y hy
      cases i with
      | zero =>
        simp at hy
        subst hy
        simp only [List.set_cons_zero, sumI]
        omega
      | succ i =>
        have := ih i y (by simpa using hy)
        simp only [List.set_cons_succ, sumI]
        omega
  refine follow_ind (P := Fol c m h) ?_ (mu m) m h (Nat.le_refl _) ⟨hm, hh, ⟨[], rfl, by simp⟩, fun v => by omega, fun i y hy => ⟨y, hy, Int.le_refl _⟩⟩
  intro m' h' i x y ho hx hy h0 hF
  obtain ⟨x2, y2, g1, g2, g3, -⟩ := on_ok ho
  rw [hx] at g1
  injection g1 with g1
  subst g1
  subst g3
  have hmem := List.mem_of_getElem? hx
  refine ⟨⟨by rw [List.length_set]; exact hF.mv.l, fun z hz => ?_⟩, (hR.sale x hmem).2.2.1, ?_, fun v => ?_, fun j z hz => ?_⟩
  · rcases List.mem_or_eq_of_mem_set hz with hz | rfl
    · exact hF.mv.b z hz
    · have := hF.mv.b y (List.mem_of_getElem? hy)
      omega
  · obtain ⟨L, l1, l2⟩ := hF.way
    refine ⟨L ++ [x], goes_snoc hmem l1, ?_⟩
    have := sumset m' i y hy
    rw [List.length_append, List.length_singleton]
    omega
  · rw [Int.sub_eq_add_neg, bump_setZ hy, net_bump v _ _ i _ (salOf c x) (sals_get hx) (List.getElem?_eq_some_iff.1 hy).1, hF.net v]
    show _ + -1 * (one ((houseI c x.buyer).toNat = v) - one ((houseI c x.seller).toNat = v)) = _
    omega
  · rw [List.getElem?_set] at hz
    split at hz
    · rename_i e
      subst e
      rw [if_pos (List.getElem?_eq_some_iff.1 hy).1] at hz
      injection hz with hz
      obtain ⟨y0, a1, a2⟩ := hF.le i y hy
      exact ⟨y0, a1, by omega⟩
    · exact hF.le j z hz
theorem house_get {c : Chn} {e : Int} (h : e ∈ c.houses) : c.houses[(houseI c e).toNat]? = some e := by
  obtain ⟨b1, b2⟩ := houseI_lt h
  unfold houseI at b1 ⊢
  obtain ⟨k, z, hk, hz, hp⟩ := idxZ_pos b1
  rw [hk]
  have := of_decide_eq_true hp
  subst this
  exact hz
theorem house_same {c : Chn} {a b : Int} (ha : a ∈ c.houses) (hb : b ∈ c.houses) (h : (houseI c a).toNat = (houseI c b).toNat) : a = b := by
  have h1 := house_get ha
  rw [h, house_get hb] at h1
  injection h1 with h1
  exact h1.symm
theorem house_idxZ {c : Chn} (hR : Right c) {k : Nat} {h : Int} (hk : c.houses[k]? = some h) : (houseI c h).toNat = k := by
  have hp := rising_pair hR.hr
  rw [List.pairwise_iff_getElem] at hp
  have h1 := house_get (List.mem_of_getElem? hk)
  generalize (houseI c h).toNat = j at h1
  obtain ⟨a1, a2⟩ := List.getElem?_eq_some_iff.1 hk
  obtain ⟨b1, b2⟩ := List.getElem?_eq_some_iff.1 h1
  rcases Nat.lt_trichotomy j k with e | e | e
  · have := hp j k b1 a1 e; omega
  · exact e
  · have := hp k j a1 b1 e; omega
/-- What has been handed out and got. -/
structure HI (c : Chn) (l m : List Int) (st en : Nat → Int) : Prop where
  mv : Mvs c m
  net : ∀ v, net (salsOf c) m v = net (salsOf c) l v + st v - en v
  out : ∀ v, 0 < en v → ∀ (i : Nat) (x : Sale) (y : Int), c.sales[i]? = some x → m[i]? = some y → (houseI c x.seller).toNat = v → y ≤ 0
  en0 : ∀ v, 0 ≤ en v
  tot : sumN c.houses.length st = sumN c.houses.length en
theorem net_in0 (v : Nat) : ∀ (S : List Sal) (m : List Int), (∀ y ∈ m, 0 ≤ y) → (∀ (i : Nat) (x : Sal) (y : Int), S[i]? = some x → m[i]? = some y → x.s = v → y ≤ 0) → 0 ≤ net S m v
  | [], _, _, _ => by simp [net]
  | _ :: _, [], _, _ => by simp [net]
  | x :: S, y :: m, h0, h => by
    have ih := net_in0 v S m (fun z hz => h0 z (by simp [hz])) fun i x' y' hx hy => h (i + 1) x' y' hx hy
    have hy := h0 y (by simp)
    have hs := h 0 x y rfl rfl
    simp only [net]
    unfold one
    by_cases e : x.s = v
    · have : y = 0 := by have := hs e; omega
      subst this
      simp
      exact ih
    · rw [if_neg e]
      split <;> simp <;> omega
theorem HI.le {c : Chn} {l m : List Int} {st en : Nat → Int} (h : HI c l m st en) (hst : ∀ v, st v ≤ max 0 (-(Go.Proofs.YtafdbgielmlihaaDoor.net (salsOf c) l v))) (v : Nat) : en v ≤ max 0 (Go.Proofs.YtafdbgielmlihaaDoor.net (salsOf c) l v) := by
  apply Classical.byContradiction
  intro hn
  have he : 0 < en v := by omega
  have h1 := net_in0 v (salsOf c) m (fun y hy => (h.mv.b y hy).1) fun i x y hx hy hs => by
    unfold salsOf at hx
    rw [List.getElem?_map] at hx
    obtain ⟨z, hz, rfl⟩ := Option.map_eq_some_iff.1 hx
    exact h.out v he i z y hz hy hs
  have h2 := h.net v
  have h3 := hst v
  omega
theorem HI.step {c : Chn} (hR : Right c) {l m : List Int} {st en : Nat → Int} (h : HI c l m st en) {h0 : Int} (hh : h0 ∈ c.houses) :
    HI c l (follow c m h0).1 (fun v => st v + one ((houseI c h0).toNat = v)) (fun v => en v + one ((houseI c (follow c m h0).2).toNat = v)) := by
  have hF := fol hR h.mv hh
  have hE := follow_end (c := c) (mu m) m h0 (Nat.le_refl _)
  generalize (follow c m h0).1 = m' at hF hE
  generalize (follow c m h0).2 = e at hF hE
  have l1 := houseI_lt hh
  have l2 := houseI_lt hF.hh
  refine ⟨hF.mv, fun v => by rw [hF.net, h.net]; omega, fun v hv i x y hx hy hs => ?_, fun v => ?_, ?_⟩
  · by_cases e1 : (houseI c e).toNat = v
    · have hsm := (hR.sale x (List.mem_of_getElem? hx)).2.1
      exact on_noneZ hE hx hy (house_same hsm hF.hh (hs.trans e1.symm))
    · have : one ((houseI c e).toNat = v) = 0 := if_neg e1
      obtain ⟨y0, a1, a2⟩ := hF.le i y hy
      have := h.out v (by omega) i x y0 hx a1 hs
      omega
  · have := h.en0 v
    unfold one
    split <;> omega
  · rw [sumN_add, sumN_add, h.tot]
    have o1 := sumN_one (n := c.houses.length) (u := (houseI c h0).toNat) fun _ => 1
    have o2 := sumN_one (n := c.houses.length) (u := (houseI c e).toNat) fun _ => 1
    rw [if_pos (by omega)] at o1 o2
    simp only [Int.one_mul] at o1 o2
    rw [o1, o2]
def rowW (f : Int → Int) : List Int → List Int → Int
  | e :: H, y :: r => y * f e + rowW f H r
  | _, _ => 0
theorem rowW_bump (f : Int → Int) : ∀ {H r : List Int} {i : Nat} {e : Int} (δ : Int), r.length = H.length → H[i]? = some e → rowW f H (bump r i δ) = rowW f H r + δ * f e
  | z :: H, y :: r, 0, e, δ, _, h => by
    simp at h
    subst h
    simp only [bump, List.modify_zero_cons, rowW, Int.add_mul]
    omega
  | z :: H, y :: r, i + 1, e, δ, hl, h => by
    have := rowW_bump f (H := H) (r := r) δ (by simpa using hl) (i := i) (by simpa using h)
    unfold bump at this
    simp only [bump, List.modify_succ_cons, rowW]
    omega
  | [], _, _, _, _, _, h => by simp at h
  | _ :: _, [], _, _, _, h, _ => by simp at h
theorem rowW_zero (f : Int → Int) : ∀ (H : List Int) (k : Nat), rowW f H (List.replicate k 0) = 0
  | [], k => by cases k <;> rfl
  | _ :: _, 0 => rfl
  | e :: H, k + 1 => by
    rw [List.replicate_succ, rowW, rowW_zero f H k]
    simp
theorem rowW_ge (f : Int → Int) (hf : ∀ e, 0 ≤ f e) : ∀ {H r : List Int}, (∀ y ∈ r, 0 ≤ y) → ∀ {i : Nat} {e y : Int}, H[i]? = some e → r[i]? = some y → y * f e ≤ rowW f H r
  | z :: H, w :: r, h0, 0, e, y, h, hy => by
    simp at h hy
    subst h hy
    have : 0 ≤ rowW f H r := by
      have : ∀ (H r : List Int), (∀ y ∈ r, 0 ≤ y) → 0 ≤ rowW f H r := by
        intro H
        induction H with
        | nil => intro r _; simp [rowW]
        | cons z H ih =>
          intro r hr
          cases r with
          | nil => simp [rowW]
          | cons w r =>
            have := ih r fun y hy => hr y (by simp [hy])
            have := Int.mul_nonneg (hr w (by simp)) (hf z)
            simp only [rowW]
            omega
      exact this H r fun y hy => h0 y (by simp [hy])
    simp only [rowW]
    omega
  | z :: H, w :: r, h0, i + 1, e, y, h, hy => by
    have := rowW_ge f hf (H := H) (r := r) (fun y hy => h0 y (by simp [hy])) (by simpa using h) (by simpa using hy)
    have := Int.mul_nonneg (h0 w (by simp)) (hf z)
    simp only [rowW]
    omega
  | [], _, _, _, _, _, h, _ => by simp at h
  | _ :: _, [], _, _, _, _, _, hy => by simp at hy
def wsum (f : Int → Int → Int) : List Hnd → Int
  | [] => 0
  | x :: H => x.n * f x.a x.b + wsum f H
theorem wsum_append (f : Int → Int → Int) : ∀ (H K : List Hnd), wsum f (H ++ K) = wsum f H + wsum f K
  | [], K => by simp [wsum]
  | x :: H, K => by
    simp only [List.cons_append, wsum]
    rw [wsum_append f H K]
    omega
theorem wsum_out (f : Int → Int → Int) (h : Int) : ∀ (H r : List Int), (∀ y ∈ r, 0 ≤ y) → wsum f (((H.zip r).filter fun p => decide (0 < p.2)).map fun p => ⟨h, p.1, p.2⟩) = rowW (f h) H r
  | [], r, _ => by simp [wsum, rowW]
  | _ :: _, [], _ => by simp [wsum, rowW]
  | e :: H, y :: r, h0 => by
    have ih := wsum_out f h H r fun z hz => h0 z (by simp [hz])
    have hy := h0 y (by simp)
    rw [List.zip_cons_cons, List.filter_cons]
    by_cases hp : 0 < y
    · rw [if_pos (by simpa using hp), List.map_cons, wsum, rowW, ih]
    · have : y = 0 := by omega
      subst this
      rw [if_neg (by simp), rowW, ih]
      simp
/-- Sales from house to house, as few as can be. -/
theorem dist_exists (c : Chn) : ∃ D : Int → Int → Nat, ∀ a b k, toB c b k a = true → Away c b (D a b) a ∧ D a b ≤ k := by
  have : ∀ a b, ∃ d : Nat, ∀ k, toB c b k a = true → Away c b d a ∧ d ≤ k := by
    intro a b
    by_cases h : ∃ k, toB c b k a = true
    · obtain ⟨k, hk⟩ := h
      obtain ⟨d, h1, h2⟩ := away_exists hk
      refine ⟨d, fun j hj => ⟨h2, ?_⟩⟩
      obtain ⟨d', h3, h4⟩ := away_exists hj
      have := h2.one h4
      omega
    · exact ⟨0, fun k hk => absurd ⟨k, hk⟩ h⟩
  refine ⟨fun a b => Classical.choose (this a b), fun a b => Classical.choose_spec (this a b)⟩
structure RowsI (c : Chn) (l : List Int) (h : Int) (m : List Int) (st en : Nat → Int) (D : Int → Int → Nat) (k : Nat) (s : List Int × List Int) : Prop where
  hi : HI c l s.1 (fun v => st v + (k : Int) * one ((houseI c h).toNat = v)) (fun v => en v + rowW (fun e => one ((houseI c e).toNat = v)) c.houses s.2)
  len : s.2.length = c.houses.length
  bd : ∀ y ∈ s.2, 0 ≤ y ∧ y ≤ k
  cost : sumI s.1 + rowW (fun e => (D h e : Int)) c.houses s.2 ≤ sumI m
  tow : ∀ (i : Nat) (e y : Int), c.houses[i]? = some e → s.2[i]? = some y → 0 < y → ∃ j, toB c e j h = true
  all : ∀ q : Int, rowW (fun _ => q) c.houses s.2 = k * q
theorem row_inv {c : Chn} (hR : Right c) {l m : List Int} {st en : Nat → Int} {h : Int} (hh : h ∈ c.houses) (hI : HI c l m st en) {D : Int → Int → Nat} (hD : ∀ a b k, toB c b k a = true → Away c b (D a b) a ∧ D a b ≤ k) :
    ∀ k, RowsI c l h m st en D k (handRow c h k (m, List.replicate c.houses.length 0))
  | 0 => by
    refine ⟨⟨hI.mv, fun v => ?_, fun v hv => ?_, fun v => ?_, ?_⟩, by simp [handRow], fun y hy => ?_, ?_, fun i e y _ hy h0 => ?_, fun q => ?_⟩
    · show net (salsOf c) m v = _ + (st v + 0 * _) - (en v + rowW _ _ (List.replicate _ 0))
      rw [rowW_zero, hI.net v]; omega
    · change 0 < en v + rowW _ _ (List.replicate _ 0) at hv
      rw [rowW_zero] at hv
      exact hI.out v (by omega)
    · show 0 ≤ en v + rowW _ _ (List.replicate _ 0)
      rw [rowW_zero]
      have := hI.en0 v
      omega
    · show sumN _ (fun v => st v + 0 * _) = sumN _ (fun v => en v + rowW _ _ (List.replicate _ 0))
      rw [sumN_congr (f := fun v => st v + 0 * one ((houseI c h).toNat = v)) (g := st) (fun v _ => by omega), sumN_congr (f := fun v => en v + rowW (fun e => one ((houseI c e).toNat = v)) c.houses (List.replicate c.houses.length 0)) (g := en) (fun v _ => by rw [rowW_zero]; omega)]
      exact hI.tot
    · change y ∈ List.replicate _ 0 at hy
      rw [List.mem_replicate] at hy
      omega
    · show sumI m + rowW _ _ (List.replicate _ 0) ≤ _
      rw [rowW_zero]; omega
    · change (List.replicate _ (0 : Int))[i]? = _ at hy
      rw [List.getElem?_replicate] at hy
      split at hy
      · injection hy with hy; omega
      · cases hy
    · show rowW _ _ (List.replicate _ 0) = 0 * q
      rw [rowW_zero]; omega
  | k + 1 => by
    have ih := row_inv hR hh hI hD k
    rw [handRow]
    generalize handRow c h k (m, List.replicate c.houses.length 0) = s at ih
    have hF := fol hR ih.hi.mv hh
    have hS := ih.hi.step hR hh
    generalize (follow c s.1 h).1 = m' at hF hS
    generalize (follow c s.1 h).2 = e at hF hS
    have he := house_get hF.hh
    obtain ⟨L, w1, w2⟩ := hF.way
    have ht := goes_to w1
    have hd := hD h e _ ht
    refine ⟨⟨hF.mv, fun v => ?_, fun v hv => ?_, fun v => ?_, ?_⟩, by rw [bump_len]; exact ih.len, fun y hy => ?_, ?_, fun i e' y hi hy h0 => ?_, fun q => ?_⟩
    · show _ = _ + (st v + ((k + 1 : Nat) : Int) * _) - (en v + rowW _ _ (bump s.2 _ 1))
      rw [rowW_bump _ _ ih.len he, hS.net v, Int.natCast_succ, Int.add_mul]
      omega
    · change 0 < en v + rowW _ _ (bump s.2 _ 1) at hv
      rw [rowW_bump _ _ ih.len he] at hv
      exact hS.out v (by omega)
    · show 0 ≤ en v + rowW _ _ (bump s.2 _ 1)
      rw [rowW_bump _ _ ih.len he]
      have := hS.en0 v
      omega
    · show sumN _ (fun v => st v + ((k + 1 : Nat) : Int) * _) = sumN _ (fun v => en v + rowW _ _ (bump s.2 _ 1))
      rw [sumN_congr (g := fun v => st v + (k : Int) * one ((houseI c h).toNat = v) + one ((houseI c h).toNat = v)) (fun v _ => by rw [Int.natCast_succ, Int.add_mul]; omega),
        sumN_congr (f := fun v => en v + rowW _ _ (bump s.2 _ 1)) (g := fun v => en v + rowW (fun e => one ((houseI c e).toNat = v)) c.houses s.2 + one ((houseI c e).toNat = v)) (fun v _ => by rw [rowW_bump _ _ ih.len he]; omega)]
      exact hS.tot
    · obtain ⟨i, hi⟩ := List.getElem?_of_mem hy
      rw [bump_get] at hi
      obtain ⟨z, hz, rfl⟩ := Option.map_eq_some_iff.1 hi
      have := ih.bd z (List.mem_of_getElem? hz)
      split <;> omega
    · show sumI m' + rowW _ _ (bump s.2 _ 1) ≤ _
      rw [rowW_bump _ _ ih.len he]
      have := ih.cost
      omega
    · change (bump s.2 _ 1)[i]? = _ at hy
      rw [bump_get] at hy
      obtain ⟨z, hz, hy'⟩ := Option.map_eq_some_iff.1 hy
      by_cases e1 : (houseI c e).toNat = i
      · subst e1
        rw [he] at hi
        injection hi with hi
        subst hi
        exact ⟨_, ht⟩
      · rw [if_neg e1] at hy'
        exact ih.tow i e' z hi hz (by omega)
    · show rowW _ _ (bump s.2 _ 1) = _
      rw [rowW_bump _ _ ih.len he, ih.all q, Int.natCast_succ, Int.add_mul]
end Go.Proofs.YtafdbgielmlihaaDoor
/- ChainHanded, plain: over all houses. -/
namespace Go.Proofs.YtafdbgielmlihaaDoor
open Go.RowKit Go.Shelf
set_option linter.unusedSimpArgs false

/-- What a house hands out. -/
def giveI (c : Chn) (l : List Int) (v : Nat) : Int := max 0 (-(net (salsOf c) l v))
structure HandsI (c : Chn) (l : List Int) (D : Int → Int → Nat) (k : Nat) (s : List Int × List Hnd) : Prop where
  hi : HI c l s.1 (fun v => if v < k then giveI c l v else 0) (fun v => wsum (fun _ b => one ((houseI c b).toNat = v)) s.2)
  frm : ∀ v, wsum (fun a _ => one ((houseI c a).toNat = v)) s.2 = if v < k then giveI c l v else 0
  cost : sumI s.1 + wsum (fun a b => (D a b : Int)) s.2 ≤ sumI l
  good : ∀ x ∈ s.2, (∃ j, j < k ∧ c.houses[j]? = some x.a) ∧ x.b ∈ c.houses ∧ (1 ≤ x.n ∧ x.n ≤ 90) ∧ x.a ≠ x.b ∧ ∃ j, toB c x.b j x.a = true
  sort : s.2.Pairwise fun x y => x.a < y.a ∨ x.a = y.a ∧ x.b < y.b
theorem HI.congr {c : Chn} {l m : List Int} {st en st' en' : Nat → Int} (h : HI c l m st en) (h1 : ∀ v, st v = st' v) (h2 : ∀ v, en v = en' v) : HI c l m st' en' := by
  have e1 : st = st' := funext h1
  have e2 : en = en' := funext h2
  subst e1 e2
  exact h
theorem zip_sorted : ∀ {H r : List Int}, H.Pairwise (· < ·) → (H.zip r).Pairwise fun p q => p.1 < q.1
  | [], r, _ => by simp
  | _ :: _, [], _ => by simp
  | e :: H, y :: r, h => by
    rw [List.zip_cons_cons, List.pairwise_cons]
    rw [List.pairwise_cons] at h
    exact ⟨fun p hp => h.1 p.1 (List.of_mem_zip hp).1, zip_sorted h.2⟩
theorem hands_inv {c : Chn} (hR : Right c) (hN : c.sales.length ≤ 10) {l : List Int} (hl : Mvs c l) {D : Int → Int → Nat} (hD : ∀ a b k, toB c b k a = true → Away c b (D a b) a ∧ D a b ≤ k) :
    ∀ k, k ≤ c.houses.length → HandsI c l D k (handsTo c l (getsL c l) k)
  | 0, _ => by
    refine ⟨⟨hl, fun v => ?_, fun v hv => ?_, fun v => Int.le_refl _, ?_⟩, fun v => ?_, ?_, fun x hx => ?_, List.Pairwise.nil⟩
    · show net (salsOf c) l v = net (salsOf c) l v + (if v < 0 then _ else 0) - 0
      rw [if_neg (by omega)]; omega
    · exact absurd hv (by show ¬ (0 : Int) < 0; omega)
    · rw [sumN_congr (g := fun _ => 0) (fun v _ => by rw [if_neg (by omega)])]
      rfl
    · rw [if_neg (by omega)]; rfl
    · show sumI l + 0 ≤ sumI l
      omega
    · cases hx
  | k + 1, hk => by
    have ih := hands_inv hR hN hl hD k (by omega)
    have hx : c.houses[k]? = some c.houses[k] := List.getElem?_eq_getElem (by omega)
    have hg : (getsL c l)[k]? = some (net (salsOf c) l k) := gets_at (by omega)
    have hmem := List.getElem_mem (show k < c.houses.length by omega)
    have hik := house_idxZ hR hx
    rw [handsTo, hx, hg]
    simp only
    generalize handsTo c l (getsL c l) k = s at ih
    generalize c.houses[k] = h at hx hmem hik
    have hr := row_inv hR hmem ih.hi hD (-(net (salsOf c) l k)).toNat
    generalize handRow c h (-(net (salsOf c) l k)).toNat (s.1, List.replicate c.houses.length 0) = r at hr
    have hK : (((-(net (salsOf c) l k)).toNat : Nat) : Int) = giveI c l k := by unfold giveI; omega
    have hb := net_bd (B := 9) k (by decide) (salsOf c) l (fun y hy => by have := hl.b y hy; omega)
    have hll := hl.l
    have hst : ∀ v, (if v < k then giveI c l v else 0) + giveI c l k * one ((houseI c h).toNat = v) = if v < k + 1 then giveI c l v else 0 := fun v => by
      rw [hik]
      unfold one
      by_cases e : k = v
      · subst e
        rw [if_neg (by omega), if_pos rfl, if_pos (by omega)]; omega
      · rw [if_neg e]
        by_cases e2 : v < k
        · rw [if_pos e2, if_pos (by omega)]; omega
        · rw [if_neg e2, if_neg (by omega)]; omega
    have h0 := fun y hy => (hr.bd y hy).1
    have hall := hr.all
    have hbd := hr.bd
    rw [hK] at hbd hall
    have hhi := hr.hi
    rw [hK] at hhi
    have hle := (hhi.congr hst (fun _ => rfl)).le (fun v => by show (if v < k + 1 then giveI c l v else 0) ≤ giveI c l v; split <;> (unfold giveI; omega))
    refine ⟨hhi.congr hst fun v => ?_, fun v => ?_, ?_, fun x hxm => ?_, ?_⟩
    · rw [wsum_append]
      unfold outRow
      rw [wsum_out _ h _ _ h0]
    · rw [wsum_append]
      unfold outRow
      rw [wsum_out _ h _ _ h0, ih.frm v, ← hst v]
      have := hall (one ((houseI c h).toNat = v))
      omega
    · rw [wsum_append]
      unfold outRow
      rw [wsum_out _ h _ _ h0]
      have h1 := hr.cost
      have h2 := ih.cost
      show sumI r.1 + (wsum (fun a b => (D a b : Int)) s.2 + rowW (fun e => (D h e : Int)) c.houses r.2) ≤ sumI l
      have h3 : sumI r.1 + rowW (fun e => (D h e : Int)) c.houses r.2 ≤ sumI s.1 := h1
      omega
    · rcases List.mem_append.1 hxm with hxm | hxm
      · obtain ⟨⟨j, a1, a2⟩, a3⟩ := ih.good x hxm
        exact ⟨⟨j, by omega, a2⟩, a3⟩
      · unfold outRow at hxm
        obtain ⟨p, hp, rfl⟩ := List.mem_map.1 hxm
        obtain ⟨hp1, hp2⟩ := List.mem_filter.1 hp
        have hp2 : 0 < p.2 := of_decide_eq_true hp2
        obtain ⟨i, hi⟩ := List.getElem?_of_mem hp1
        obtain ⟨z1, z2⟩ := List.getElem?_zip_eq_some.1 hi
        have b1 := hbd p.2 (List.mem_of_getElem? z2)
        have b2 : giveI c l k ≤ 90 := by unfold giveI; omega
        refine ⟨⟨k, by omega, hx⟩, List.mem_of_getElem? z1, ⟨by show 1 ≤ p.2; omega, by show p.2 ≤ 90; omega⟩, ?_, hr.tow i p.1 p.2 z1 z2 hp2⟩
        show h ≠ p.1
        intro e
        have h1 := hle k
        have h2 := rowW_ge (fun e => one ((houseI c e).toNat = k)) (fun e => by unfold one; split <;> omega) h0 z1 z2
        have h3 : one ((houseI c p.1).toNat = k) = 1 := by rw [← e]; exact if_pos hik
        rw [h3] at h2
        have h4 := ih.hi.en0 k
        try simp only at h4
        unfold giveI at b1
        omega
    · rw [List.pairwise_append]
      refine ⟨ih.sort, ?_, fun x hxm y hym => ?_⟩
      · unfold outRow
        rw [List.pairwise_map]
        refine List.Pairwise.imp ?_ ((zip_sorted (rising_pair hR.hr)).filter _)
        intro p q hpq
        exact .inr ⟨rfl, hpq⟩
      · obtain ⟨⟨j, a1, a2⟩, -⟩ := ih.good x hxm
        unfold outRow at hym
        obtain ⟨p, -, rfl⟩ := List.mem_map.1 hym
        have hp := rising_pair hR.hr
        rw [List.pairwise_iff_getElem] at hp
        obtain ⟨c1, c2⟩ := List.getElem?_eq_some_iff.1 a2
        obtain ⟨d1, d2⟩ := List.getElem?_eq_some_iff.1 hx
        have := hp j k c1 d1 a1
        exact .inl (by show x.a < h; omega)
/-- **Each house hands out what it owes, and gets what it is owed.** -/
theorem hands_all {c : Chn} (hc : checkP c = true) {l : List Int} (hcl : IsClose c l) : ∃ D : Int → Int → Nat, (∀ a b k, toB c b k a = true → Away c b (D a b) a ∧ D a b ≤ k) ∧
    (∀ v, v < c.houses.length → wsum (fun a _ => one ((houseI c a).toNat = v)) (handsL c l) - wsum (fun _ b => one ((houseI c b).toNat = v)) (handsL c l) = -(net (salsOf c) (balesOf c) v)) ∧
    wsum (fun a b => (D a b : Int)) (handsL c l) ≤ sumI l ∧
    (∀ x ∈ handsL c l, x.a ∈ c.houses ∧ x.b ∈ c.houses ∧ (1 ≤ x.n ∧ x.n ≤ 90) ∧ x.a ≠ x.b ∧ ∃ j, toB c x.b j x.a = true) ∧
    (handsL c l).Pairwise fun x y => x.a < y.a ∨ x.a = y.a ∧ x.b < y.b := by
  obtain ⟨hR, hN⟩ := check_right hc
  have hC := closes_close hcl
  have hM : Mvs c l := ⟨hC.len, closes_nine hR hC⟩
  obtain ⟨D, hD⟩ := dist_exists c
  have hI := hands_inv hR hN hM hD c.houses.length (Nat.le_refl _)
  have e : handsL c l = (handsTo c l (getsL c l) c.houses.length).2 := by unfold handsL; rw [if_pos hc]
  rw [e]
  generalize handsTo c l (getsL c l) c.houses.length = s at hI
  have hst : ∀ v, (if v < c.houses.length then giveI c l v else 0) ≤ max 0 (-(net (salsOf c) l v)) := fun v => by
    split
    · exact Int.le_refl _
    · omega
  have hle := hI.hi.le hst
  have htot := hI.hi.tot
  have hz := net_total (n := c.houses.length) (sals_lt hR) l
  have e1 : sumN c.houses.length (fun v => if v < c.houses.length then giveI c l v else 0) = sumN c.houses.length (giveI c l) := sumN_congr fun v hv => by rw [if_pos hv]
  have e2 := sumN_add c.houses.length (fun v => net (salsOf c) l v) (giveI c l)
  have e3 : sumN c.houses.length (fun v => net (salsOf c) l v + giveI c l v) = sumN c.houses.length (fun v => max 0 (net (salsOf c) l v)) := sumN_congr fun v _ => by unfold giveI; omega
  have e4 := sumN_add c.houses.length (fun v => wsum (fun _ b => one ((houseI c b).toNat = v)) s.2 - max 0 (net (salsOf c) l v)) (fun v => max 0 (net (salsOf c) l v))
  have e5 : sumN c.houses.length (fun v => wsum (fun _ b => one ((houseI c b).toNat = v)) s.2 - max 0 (net (salsOf c) l v) + max 0 (net (salsOf c) l v)) = sumN c.houses.length (fun v => wsum (fun _ b => one ((houseI c b).toNat = v)) s.2) := sumN_congr fun v _ => by omega
  have each := sumN_each (n := c.houses.length) (f := fun v => wsum (fun _ b => one ((houseI c b).toNat = v)) s.2 - max 0 (net (salsOf c) l v)) (fun v _ => by have := hle v; show _ ≤ (0 : Int); omega) (by rw [e1] at htot; omega)
  refine ⟨D, hD, fun v hv => ?_, ?_, fun x hx => ?_, hI.sort⟩
  · have h1 := hI.frm v
    have h2 := each v hv
    rw [if_pos hv] at h1
    rw [h1, ← hC.gets v]
    try simp only at h2
    unfold giveI
    omega
  · have h1 := hI.cost
    have h2 : 0 ≤ sumI s.1 := by
      have : ∀ m : List Int, (∀ y ∈ m, 0 ≤ y) → 0 ≤ sumI m := by
        intro m
        induction m with
        | nil => intro _; exact Int.le_refl _
        | cons y m ih =>
          intro h
          have := ih fun z hz => h z (by simp [hz])
          have := h y (by simp)
          simp only [sumI]
          omega
      exact this _ fun y hy => (hI.hi.mv.b y hy).1
    omega
  · obtain ⟨⟨j, -, a1⟩, a2⟩ := hI.good x hx
    exact ⟨List.mem_of_getElem? a1, a2⟩
end Go.Proofs.YtafdbgielmlihaaDoor
/- ChainHanded, plain: what the law reckons as it goes through what is handed. -/
namespace Go.Proofs.YtafdbgielmlihaaDoor
open Go.RowKit Go.Shelf
set_option linter.unusedSimpArgs false

/-- What is owed behind the first of those that are handed. -/
def payL (c : Chn) (H : List Hnd) (b : List Int) : List Int := H.foldl (fun b x => bump (bump b (houseI c x.a).toNat x.n) (houseI c x.b).toNat (-x.n)) b
theorem payL_len (c : Chn) : ∀ (H : List Hnd) (b : List Int), (payL c H b).length = b.length
  | [], _ => rfl
  | x :: H, b => by
    show (payL c H (bump (bump b _ _) _ _)).length = _
    rw [payL_len c H, bump_len, bump_len]
theorem payL_get (c : Chn) (v : Nat) : ∀ (H : List Hnd) (b : List Int) (y : Int), b[v]? = some y → (payL c H b)[v]? = some (y + wsum (fun a _ => one ((houseI c a).toNat = v)) H - wsum (fun _ b => one ((houseI c b).toNat = v)) H)
  | [], b, y, hy => by
    show b[v]? = some (y + 0 - 0)
    rw [hy]; simp
  | x :: H, b, y, hy => by
    show (payL c H (bump (bump b (houseI c x.a).toNat x.n) (houseI c x.b).toNat (-x.n)))[v]? = _
    have e : (bump (bump b (houseI c x.a).toNat x.n) (houseI c x.b).toNat (-x.n))[v]? = some (y + x.n * one ((houseI c x.a).toNat = v) - x.n * one ((houseI c x.b).toNat = v)) := by
      rw [bump_get, bump_get, hy]
      simp only [Option.map_some, Option.some.injEq]
      unfold one
      split <;> split <;> simp <;> omega
    rw [payL_get c v H _ _ e]
    simp only [wsum]
    congr 1
    omega
theorem payL_snoc (c : Chn) {H : List Hnd} {k : Nat} {x : Hnd} (h : H[k]? = some x) (b : List Int) : payL c (H.take (k + 1)) b = bump (bump (payL c (H.take k) b) (houseI c x.a).toNat x.n) (houseI c x.b).toNat (-x.n) := by
  unfold payL
  rw [List.take_add_one, h, List.foldl_append]
  rfl
theorem wsum_snoc (f : Int → Int → Int) {H : List Hnd} {k : Nat} {x : Hnd} (h : H[k]? = some x) : wsum f (H.take (k + 1)) = wsum f (H.take k) + x.n * f x.a x.b := by
  rw [List.take_add_one, h, wsum_append]
  simp [wsum]
theorem wsum_le {f g : Int → Int → Int} : ∀ (H : List Hnd), (∀ x ∈ H, 0 ≤ x.n ∧ 0 ≤ f x.a x.b ∧ f x.a x.b ≤ g x.a x.b) → 0 ≤ wsum f H ∧ wsum f H ≤ wsum g H
  | [], _ => ⟨Int.le_refl _, Int.le_refl _⟩
  | x :: H, h => by
    obtain ⟨h1, h2, h3⟩ := h x (by simp)
    have ih := wsum_le H fun y hy => h y (by simp [hy])
    have e1 := Int.mul_nonneg h1 h2
    have e2 := Int.mul_le_mul_of_nonneg_left h3 h1
    simp only [wsum]
    omega
theorem wsum_take {f : Int → Int → Int} {H : List Hnd} (h : ∀ x ∈ H, 0 ≤ x.n ∧ 0 ≤ f x.a x.b) (k : Nat) : 0 ≤ wsum f (H.take k) ∧ wsum f (H.take k) ≤ wsum f H := by
  have e : wsum f H = wsum f (H.take k) + wsum f (H.drop k) := by rw [← wsum_append, List.take_append_drop]
  have h1 := (wsum_le (f := f) (g := f) (H.take k) fun x hx => ⟨(h x (List.mem_of_mem_take hx)).1, (h x (List.mem_of_mem_take hx)).2, Int.le_refl _⟩).1
  have h2 := (wsum_le (f := f) (g := f) (H.drop k) fun x hx => ⟨(h x (List.mem_of_mem_drop hx)).1, (h x (List.mem_of_mem_drop hx)).2, Int.le_refl _⟩).1
  omega
/-- What hands_all gives. -/
structure HandAll (c : Chn) (l : List Int) (D : Int → Int → Nat) : Prop where
  d : ∀ a b k, toB c b k a = true → Away c b (D a b) a ∧ D a b ≤ k
  v : ∀ v, v < c.houses.length → wsum (fun a _ => one ((houseI c a).toNat = v)) (handsL c l) - wsum (fun _ b => one ((houseI c b).toNat = v)) (handsL c l) = -(net (salsOf c) (balesOf c) v)
  s : wsum (fun a b => (D a b : Int)) (handsL c l) ≤ sumI l
  m : ∀ x ∈ handsL c l, x.a ∈ c.houses ∧ x.b ∈ c.houses ∧ (1 ≤ x.n ∧ x.n ≤ 90) ∧ x.a ≠ x.b ∧ ∃ j, toB c x.b j x.a = true
  p : (handsL c l).Pairwise fun x y => x.a < y.a ∨ x.a = y.a ∧ x.b < y.b
theorem handAll_exists {c : Chn} (hc : checkP c = true) {l : List Int} (hcl : IsClose c l) : ∃ D, HandAll c l D := by
  obtain ⟨D, h1, h2, h3, h4, h5⟩ := hands_all hc hcl
  exact ⟨D, h1, h2, h3, h4, h5⟩
/-- A round of the law's first loop. -/
structure HandRd (c : Chn) (l : List Int) (D : Int → Int → Nat) (k : Nat) (x : Hnd) (s t d : Nat) (way : List Int) (P Q : Int) : Prop where
  hs : houseI c x.a = s
  ht : houseI c x.b = t
  sl : s < c.houses.length
  tl : t < c.houses.length
  ne : s ≠ t
  n : 1 ≤ x.n ∧ x.n ≤ 90
  w : WayOf c x.a x.b way 0
  wl : way.length = d
  d0 : 0 < d
  d9 : d ≤ 90
  p : (payL c ((handsL c l).take k) (getsL c (balesOf c)))[s]? = some P
  q : (payL c ((handsL c l).take k) (getsL c (balesOf c)))[t]? = some Q
  pb : -180 ≤ P ∧ P ≤ 180
  qb : -180 ≤ Q ∧ Q ≤ 180
  pay : payL c ((handsL c l).take (k + 1)) (getsL c (balesOf c)) = ((payL c ((handsL c l).take k) (getsL c (balesOf c))).set s (P + x.n)).set t (Q - x.n)
  sum : wsum (fun a b => (D a b : Int)) ((handsL c l).take (k + 1)) = wsum (fun a b => (D a b : Int)) ((handsL c l).take k) + x.n * d
  sb : 0 ≤ wsum (fun a b => (D a b : Int)) ((handsL c l).take k) ∧ wsum (fun a b => (D a b : Int)) ((handsL c l).take k) ≤ 90
theorem hand_rd {c : Chn} (hc : checkP c = true) {l : List Int} (hcl : IsClose c l) {D : Int → Int → Nat} (hD : HandAll c l D) {k : Nat} {x : Hnd} (hx : (handsL c l)[k]? = some x) : ∃ s t d way P Q, HandRd c l D k x s t d way P Q := by
  obtain ⟨hR, hN⟩ := check_right hc
  have hcC := closes_close hcl
  have hnine := closes_nine hR hcC
  have hsum : sumI l ≤ 90 := by
    have := (sumI_bd (B := 9) (by decide) l fun y hy => by have := hnine y hy; omega).2
    rw [hcC.len] at this
    omega
  have hsD := hD.s
  have hpos : ∀ y ∈ handsL c l, 1 ≤ y.n ∧ 1 ≤ D y.a y.b := fun y hy => by
    obtain ⟨_, _, h3, h4, j, h5⟩ := hD.m y hy
    have hA := (hD.d y.a y.b j h5).1
    refine ⟨h3.1, ?_⟩
    cases hd : D y.a y.b with
    | zero =>
      rw [hd] at hA
      have h6 := hA.y
      unfold toB at h6
      exact absurd (of_decide_eq_true h6) h4
    | succ m => omega
  have one01 : ∀ (p : Prop) [Decidable p], 0 ≤ one p ∧ one p ≤ 1 := fun p _ => by unfold one; split <;> omega
  obtain ⟨ha, hb, hn, hne, j, hj⟩ := hD.m x (List.mem_of_getElem? hx)
  obtain ⟨ia0, ia1⟩ := houseI_lt ha
  obtain ⟨ib0, ib1⟩ := houseI_lt hb
  have hA := (hD.d x.a x.b j hj).1
  have hd1 := (hpos x (List.mem_of_getElem? hx)).2
  have bd : ∀ (f : Int → Int → Int), (∀ a b, 0 ≤ f a b ∧ f a b ≤ 1) → ∀ k, 0 ≤ wsum f ((handsL c l).take k) ∧ wsum f ((handsL c l).take k) ≤ 90 := fun f hf k => by
    have h1 := wsum_take (f := f) (H := handsL c l) (fun y hy => ⟨by have := hpos y hy; omega, (hf _ _).1⟩) k
    have h2 := (wsum_le (f := f) (g := fun a b => (D a b : Int)) (handsL c l) fun y hy => ⟨by have := hpos y hy; omega, (hf _ _).1, by have := hpos y hy; have := hf y.a y.b; omega⟩).2
    omega
  have gb : ∀ v, v < c.houses.length → -90 ≤ net (salsOf c) (balesOf c) v ∧ net (salsOf c) (balesOf c) v ≤ 90 := fun v _ => by
    have := net_bd (B := 9) v (by decide) (salsOf c) (balesOf c) fun y hy => by
      unfold balesOf at hy
      obtain ⟨z, hz, rfl⟩ := List.mem_map.1 hy
      have := (hR.sale z hz).2.2.2.1
      omega
    have e : (balesOf c).length = c.sales.length := by simp [balesOf]
    rw [e] at this
    omega
  have es : ((houseI c x.a).toNat : Int) = houseI c x.a := by omega
  have et : ((houseI c x.b).toNat : Int) = houseI c x.b := by omega
  have hst : (houseI c x.a).toNat ≠ (houseI c x.b).toNat := fun e => hne (house_inj (c := c) (i := (houseI c x.a).toNat) (by omega) (by omega))
  have hP := payL_get c (houseI c x.a).toNat ((handsL c l).take k) _ _ (gets_at (m := balesOf c) (show (houseI c x.a).toNat < c.houses.length by omega))
  have hQ := payL_get c (houseI c x.b).toNat ((handsL c l).take k) _ _ (gets_at (m := balesOf c) (show (houseI c x.b).toNat < c.houses.length by omega))
  have b1 := fun v => bd (fun a _ => one ((houseI c a).toNat = v)) (fun a _ => one01 _) k
  have b2 := fun v => bd (fun _ b => one ((houseI c b).toNat = v)) (fun _ b => one01 _) k
  refine ⟨_, _, D x.a x.b, wayG c x.b (D x.a x.b) x.a, _, _, es.symm, et.symm, by omega, by omega, hst, hn, ?_, way_len hA, hd1, ?_, hP, hQ, ?_, ?_, ?_, wsum_snoc _ hx, ?_⟩
  · unfold WayOf
    rw [if_pos hc, if_pos (by rw [hasI_iff.2 ha, hasI_iff.2 hb]; rfl)]
    exact .inl ⟨_, hA, rfl, rfl⟩
  · have h1 := wsum_snoc (fun a b => (D a b : Int)) hx
    have h2 := (wsum_take (f := fun a b => (D a b : Int)) (H := handsL c l) (fun y hy => ⟨by have := hpos y hy; omega, by omega⟩) (k + 1)).2
    have h3 := (wsum_take (f := fun a b => (D a b : Int)) (H := handsL c l) (fun y hy => ⟨by have := hpos y hy; omega, by omega⟩) k).1
    have h4 : (D x.a x.b : Int) ≤ x.n * (D x.a x.b : Int) := by
      have := Int.mul_le_mul_of_nonneg_right hn.1 (show 0 ≤ (D x.a x.b : Int) by omega)
      omega
    omega
  · have := b1 (houseI c x.a).toNat; have := b2 (houseI c x.a).toNat; have := gb (houseI c x.a).toNat (by omega)
    omega
  · have := b1 (houseI c x.b).toNat; have := b2 (houseI c x.b).toNat; have := gb (houseI c x.b).toNat (by omega)
    omega
  · rw [payL_snoc c hx, bump_set hP, bump_set (y := _) (by rw [List.getElem?_set, if_neg hst]; exact hQ), Int.sub_eq_add_neg]
    rfl
  · have h2 := wsum_take (f := fun a b => (D a b : Int)) (H := handsL c l) (fun y hy => ⟨by have := hpos y hy; omega, by omega⟩) k
    omega
theorem hand_prev {c : Chn} {l : List Int} {D : Int → Int → Nat} (hD : HandAll c l D) {k : Nat} {y x : Hnd} (hy : (handsL c l)[k]? = some y) (hx : (handsL c l)[k + 1]? = some x) : y.a < x.a ∨ y.a = x.a ∧ y.b < x.b := by
  obtain ⟨h1, e1⟩ := List.getElem?_eq_some_iff.1 hy
  obtain ⟨h2, e2⟩ := List.getElem?_eq_some_iff.1 hx
  have := List.pairwise_iff_getElem.1 hD.p k (k + 1) h1 h2 (by omega)
  rw [e1, e2] at this
  exact this
/-- At the end nothing is owed, and no more sales are gone than there are moves. -/
theorem hand_end {c : Chn} {l : List Int} {D : Int → Int → Nat} (hD : HandAll c l D) : payL c (handsL c l) (getsL c (balesOf c)) = List.replicate c.houses.length 0 := by
  have hl : (payL c (handsL c l) (getsL c (balesOf c))).length = c.houses.length := by rw [payL_len]; simp [getsL]
  apply List.ext_getElem?
  intro v
  by_cases hv : v < c.houses.length
  · rw [payL_get c v _ _ _ (gets_at hv), List.getElem?_replicate, if_pos hv]
    have := hD.v v hv
    congr 1
    omega
  · rw [List.getElem?_eq_none (by omega), List.getElem?_replicate, if_neg hv]
end Go.Proofs.YtafdbgielmlihaaDoor
