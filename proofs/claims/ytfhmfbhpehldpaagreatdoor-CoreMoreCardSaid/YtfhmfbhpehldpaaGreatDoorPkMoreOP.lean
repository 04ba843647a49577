/- slices.SortStableFunc at draws and weighings, of at most twenty: insertion sort by their numbers. -/
import Derived.Test.YtfhmfbhpehldpaaGreatDoorPkMoreOE
import Derived.Test.YtfhmfbhpehldpaaGreatDoorPkMoreOO
import Derived.Test.YtfhmfbhpehldpaaGreatDoorPkMoreOD
namespace Go.Proofs.YtfhmfbhpehldpaaGreatDoor
open Go.RowKit Go.Shelf Go.Lib
set_option maxRecDepth 100000
set_option linter.unusedSimpArgs false

def cmpI (a b : Int) : Int := if a < b then -1 else if b < a then 1 else 0
theorem nan_any (x : Int) (w : World) : Calls Tryz.prog 76 #[.int .i64 x] w fun e w' => e = .returned (.bool false) ∧ Ext w w' := by
  go_enter Tryz.func76, Tryz.ntmps76
  go_wp2
  go_ret
  exact ⟨by simp, Ext.refl _⟩
theorem compare_any (a b : Int) (w : World) : Calls Tryz.prog 37 #[.int .i64 a, .int .i64 b] w fun e w' => e = .returned (.int .i64 (cmpI a b)) ∧ Ext w w' := by
  go_enter Tryz.func37, Tryz.ntmps37
  go_wp2_with fail
  refine (nan_any a w).mono ?_
  rintro e w1 ⟨rfl, hE1⟩
  have HE1 := Lib.hid hE1; clear hE1
  go_wp2_with fail
  refine (nan_any b w1).mono ?_
  rintro e w2 ⟨rfl, hE2⟩
  have HE2 := Lib.hid (HE1.out.trans hE2); clear hE2
  by_cases h1 : a < b
  · have HC := Lib.hid (show cmpI a b = -1 by unfold cmpI; rw [if_pos h1])
    go_wp2
    go_ret
    exact ⟨by rw [HC.out]; rfl, HE2.out⟩
  · by_cases h2 : b < a
    · have HC := Lib.hid (show cmpI a b = 1 by unfold cmpI; rw [if_neg h1, if_pos h2])
      go_wp2
      go_ret
      exact ⟨by rw [HC.out]; rfl, HE2.out⟩
    · have HC := Lib.hid (show cmpI a b = 0 by unfold cmpI; rw [if_neg h1, if_neg h2])
      go_wp2
      go_ret
      exact ⟨by rw [HC.out]; rfl, HE2.out⟩
theorem wrap_nat {k : Nat} (h : k ≤ 100000) : IntKind.i64.wrap (k : Int) = (k : Int) := by
  rw [IntKind.wrap_i64]
  omega
theorem own_at37 {W : World} {base g n c k : Nat} {m : List Draw} {y : Draw} (h : Own encD 37 4 W base (.slice (some ⟨g, 0, none⟩) n c) m) (hy : m[k]? = some y) :
    W.cell? ⟨g, k * 4, none⟩ = some (.int .i64 y.number) ∧ W.cell? ⟨g, k * 4 + 1, none⟩ = some (.int .i64 y.layer) ∧ W.cell? ⟨g, k * 4 + 2, none⟩ = some (.int .i64 y.grade.lo) ∧ W.cell? ⟨g, k * 4 + 3, none⟩ = some (.int .i64 y.grade.hi) ∧ g < W.heap.size := by
  have hsl : SlD W (.slice (some ⟨g, 0, none⟩) n c) m := h.sl (fun _ => rfl)
  have hk : k < n := by
    have h1 := (List.getElem?_eq_some_iff.1 hy).1
    obtain ⟨_, _, e, _⟩ := hsl
    injection e with _ e _
    omega
  obtain ⟨bb, off, y', e1, hy', hb, hc⟩ := hsl.at_ hk
  injection e1 with e1
  injection e1 with e1 e2 _
  subst e1 e2
  rw [hy] at hy'
  injection hy' with hy'
  subst hy'
  obtain ⟨c0, c1, c2, c3⟩ := SlD.cells hc (Ext.refl _)
  simp only [Nat.zero_add] at c0 c1 c2 c3
  exact ⟨c0, c1, c2, c3, hb⟩
theorem f36_any (x y : Draw) (w : World) : Calls Tryz.prog 36 #[valD x, valD y] w fun e w' => e = .returned (.int .i64 (cmpI x.number y.number)) ∧ Ext w w' := by
  dsimp only [valD]
  go_enter Tryz.func36, Tryz.ntmps36
  go_wp2_with fail
  refine (compare_any x.number y.number _).mono ?_
  rintro e w1 ⟨rfl, hE1⟩
  have HE1 := Lib.hid ((((Ext.al _ _).alloc _ : Ext w _)).trans hE1); clear hE1
  go_wp2
  go_ret
  exact ⟨rfl, HE1.out⟩

/-- Where a draw comes to stand. -/
def stopD (S : List Draw) (x : Draw) : Nat → Nat
  | 0 => 0
  | j + 1 => match S[j]? with
    | some y => if x.number < y.number then stopD S x j else j + 1
    | none => j + 1
def putD (S : List Draw) (x : Draw) (j : Nat) : List Draw := S.take j ++ x :: S.drop j
def sortD (l : List Draw) : Nat → List Draw
  | 0 => []
  | k + 1 => match l[k]? with
    | some x => putD (sortD l k) x (stopD (sortD l k) x k)
    | none => sortD l k
theorem stopD_le (S : List Draw) (x : Draw) : ∀ j, stopD S x j ≤ j
  | 0 => Nat.le_refl _
  | j + 1 => by
    unfold stopD
    split
    · split
      · exact Nat.le_succ_of_le (stopD_le S x j)
      · exact Nat.le_refl _
    · exact Nat.le_refl _
theorem putD_len (S : List Draw) (x : Draw) {j : Nat} (hj : j ≤ S.length) : (putD S x j).length = S.length + 1 := by unfold putD; simp; omega
theorem sortD_len (l : List Draw) : ∀ k, k ≤ l.length → (sortD l k).length = k
  | 0, _ => rfl
  | k + 1, h => by
    have ih := sortD_len l k (by omega)
    unfold sortD
    rw [List.getElem?_eq_getElem (show k < l.length by omega)]
    simp only
    rw [putD_len _ _ (by rw [ih]; exact stopD_le _ _ _), ih]
theorem putD_at (S T : List Draw) (x : Draw) {j : Nat} (hj : j ≤ S.length) : (putD S x j ++ T)[j]? = some x := by
  unfold putD
  rw [List.append_assoc, List.getElem?_append_right (by simp; omega)]
  simp [List.length_take, Nat.min_eq_left hj]
theorem putD_before (S T : List Draw) (x : Draw) {j : Nat} (hj : j < S.length) : (putD S x (j + 1) ++ T)[j]? = S[j]? := by
  unfold putD
  rw [List.append_assoc, List.getElem?_append_left (by simp; omega), List.getElem?_take, if_pos (by omega)]
theorem putD_swap (S T : List Draw) (x y : Draw) {j : Nat} (hy : S[j]? = some y) : ((putD S x (j + 1) ++ T).set (j + 1) y).set j x = putD S x j ++ T := by
  have hj : j < S.length := (List.getElem?_eq_some_iff.1 hy).1
  have h1 : S.take (j + 1) = S.take j ++ [y] := by rw [List.take_add_one, hy]; rfl
  have h2 : S.drop j = y :: S.drop (j + 1) := drop_at hy
  unfold putD
  rw [h1, h2]
  have hl : (S.take j).length = j := by simp; omega
  rw [show List.take j S ++ [y] ++ x :: List.drop (j + 1) S ++ T = List.take j S ++ (y :: x :: (List.drop (j + 1) S ++ T)) by simp]
  rw [List.set_append_right (j + 1) y (by omega), List.set_append_right j x (by omega), hl]
  rw [show j + 1 - j = 1 by omega, Nat.sub_self]
  simp
theorem putD_end (S T : List Draw) (x : Draw) : putD S x S.length ++ T = S ++ (x :: T) := by unfold putD; simp

set_option maxHeartbeats 2000000 in
theorem f96_any (l : List Draw) (g n c base : Nat) (w : World) (hn : n = l.length) (hn0 : 0 < n) (hn20 : n ≤ 20) (ho : Own encD 37 4 w base (.slice (some ⟨g, 0, none⟩) n c) l) :
    Calls Tryz.prog 96 #[.slice (some ⟨g, 0, none⟩) n c, .int .i64 0, .int .i64 (n : Int), .func (.func 36) #[] #[]] w fun e w' => (∃ v, e = .returned v) ∧ Own encD 37 4 w' base (.slice (some ⟨g, 0, none⟩) n c) (sortD l n) ∧ w.grownBy w' (some g) := by
  have HO := Lib.hid ho
  have HN := Lib.hid hn
  have eg : ∀ args w, (callFunc 36 args).run Tryz.prog w = .ok (.enter 36 args) w := enters_of Tryz.func36 (by kernel_rfl) rfl
  clear ho hn
  go_enter Tryz.func96, Tryz.ntmps96
  go_wp2
  go_loopg [8, 9] n (fun gg s8 _ wr => ∃ i : Nat, 1 ≤ i ∧ i ≤ n ∧ n - i ≤ gg ∧ s8 = .int .i64 (i : Int) ∧ Aside (Own encD 37 4 wr base (.slice (some ⟨g, 0, none⟩) n c) (sortD l i ++ l.drop i)) ∧ Aside (w.grownBy wr (some g)))
  case atStart => exact ⟨1, by omega, by omega, by omega, rfl, by
    have h0 : 0 < l.length := by have := HN.out; omega
    have : sortD l 1 ++ l.drop 1 = l := by
      match l, h0 with
      | x :: r, _ => simp [sortD, stopD, putD]
    rw [this]; exact HO.out, World.grownBy.refl _ _⟩
  case round =>
    obtain ⟨i, hi1, hin, hgg, rfl, OW, GW⟩ := hrel
    by_cases hiN : i < n
    · have hiz : (i : Int) < (n : Int) := by omega
      obtain ⟨x, hx⟩ : ∃ x, l[i]? = some x := ⟨_, List.getElem?_eq_getElem (by have := HN.out; omega)⟩
      have HX := Lib.hid hx
      have HSL := Lib.hid (sortD_len l i (by have := HN.out; omega))
      have HSS := Lib.hid (show sortD l (i + 1) = putD (sortD l i) x (stopD (sortD l i) x i) by rw [sortD, hx])
      have HDR := Lib.hid (show sortD l i ++ l.drop i = putD (sortD l i) x i ++ l.drop (i + 1) by
        rw [drop_at hx]
        have := putD_end (sortD l i) (l.drop (i + 1)) x
        rw [HSL.out] at this
        exact this.symm)
      rw [HDR.out] at OW
      clear hx
      generalize sortD l i = S at *
      generalize hTT : l.drop (i + 1) = T at *
      have HTT := Lib.hid hTT; clear hTT
      obtain ⟨wo, hwo⟩ : ∃ wo : World, wo = wr := ⟨_, rfl⟩
      subst hwo
      go_wp2_with fail
      go_loopg [9] i (fun gg s9 wr => ∃ j : Nat, j ≤ i ∧ j ≤ gg ∧ s9 = .int .i64 (j : Int) ∧ Aside (Own encD 37 4 wr base (.slice (some ⟨g, 0, none⟩) n c) (putD S x j ++ T)) ∧ Aside (stopD S x i = stopD S x j) ∧ Aside (w.grownBy wr (some g)))
      case atStart => exact ⟨i, by omega, by omega, rfl, OW.out, rfl, GW.out⟩
      case round =>
        obtain ⟨j, hji, hgj, rfl, OJ, ST, GJ⟩ := hrel
        by_cases hj0 : j = 0
        · subst hj0
          have HFI := Lib.hid (show Own encD 37 4 wr base (.slice (some ⟨g, 0, none⟩) n c) (sortD l (i + 1) ++ T) by rw [HSS.out, ST.out]; exact OJ.out)
          go_wp2_with fail
          refine wp_region_tame (fun W => Ext wr W) (fun W W' => Ext W W') (by kernel_rfl) 53 rfl (by decide +kernel) (Ext.refl _).drew ?_
          repeat (apply tame_q rfl; (intro ρ W hC hr hD; (obtain ⟨hrc, hrg, hrf, hrs⟩ := hr); (simp [go_sem] at hD); go_simp; first | exact ⟨⟨hC, Ext.refl _⟩, rfl⟩ | exact ⟨⟨hC, RS.refl _⟩, rfl⟩ | exact rfl); simp only [List.nil_append, List.cons_append])
          refine tame_end 53 rfl rfl (fun ρ W hC hr hF => ?_)
          obtain ⟨hrc, hrg, hrf, hrs⟩ := hr
          simp [go_sem] at hF
          apply frame_to
          · go_simp
            exact rfl
          have HFI := Lib.hid (HFI.out.ext hC)
          have GJ2 := Lib.hid (grown_ext GJ.out hC)
          clear hF hrs hrc hrg hrf hC
          go_wp2
          go_roundg (n - (i + 1))
          case measure => omega
          case rel => exact ⟨i + 1, by omega, by omega, by omega, by simp, by rw [HTT.out]; exact HFI.out, GJ2.out⟩
        · obtain ⟨k, hk⟩ : ∃ k, j = k + 1 := ⟨j - 1, by omega⟩
          have HK := Lib.hid hk
          have hkn : k < n := by omega
          have hjn : j < n := by omega
          have hjS : j ≤ S.length := by have := HSL.out; omega
          obtain ⟨y, hy⟩ : ∃ y, S[k]? = some y := ⟨_, List.getElem?_eq_getElem (by omega)⟩
          have HY := Lib.hid hy
          have hsl : SlD wr (.slice (some ⟨g, 0, none⟩) n c) (putD S x j ++ T) := OJ.out.sl (fun _ => rfl)
          obtain ⟨bb, off, x', e1, hx', -, hxc⟩ := hsl.at_ hjn
          injection e1 with e1
          injection e1 with e1 e2 _
          subst e1 e2
          obtain rfl : x' = x := by rw [putD_at S T x hjS] at hx'; injection hx' with h; exact h.symm
          obtain ⟨bb, off, y', e1, hy', -, hyc⟩ := hsl.at_ hkn
          injection e1 with e1
          injection e1 with e1 e2 _
          subst e1 e2
          obtain rfl : y' = y := by rw [hk, putD_before S T x' (by omega), hy] at hy'; injection hy' with h; exact h.symm
          have cx := fun W (h : Ext wr W) => SlD.cells hxc h
          have cy := fun W (h : Ext wr W) => SlD.cells hyc h
          simp only [Nat.zero_add] at cx cy
          have x0 := fun W (h : Ext wr W) => (cx W h).1
          have x1 := fun W (h : Ext wr W) => (cx W h).2.1
          have x2 := fun W (h : Ext wr W) => (cx W h).2.2.1
          have x3 := fun W (h : Ext wr W) => (cx W h).2.2.2
          have y0 := fun W (h : Ext wr W) => (cy W h).1
          have y1 := fun W (h : Ext wr W) => (cy W h).2.1
          have y2 := fun W (h : Ext wr W) => (cy W h).2.2.1
          have y3 := fun W (h : Ext wr W) => (cy W h).2.2.2
          have hjz : (0 : Int) < (j : Int) := by omega
          have hjp : 0 < j := by omega
          have hjz2 : (j : Int) < (n : Int) := by omega
          have hjs : (j : Int) - 1 = (k : Int) := by omega
          have hkz2 : (k : Int) < (n : Int) := by omega
          clear hk hx' hy' hsl hy cx cy hxc hyc
          have hwk := wrap_nat (k := k) (by omega)
          have hmj : (putD S x' j ++ T)[j]? = some x' := putD_at S T x' hjS
          have hmk : (putD S x' j ++ T)[k]? = some y' := by rw [HK.out, putD_before S T x' (by have := HK.out; omega)]; exact HY.out
          have hml : (putD S x' j ++ T).length = n := by have := OJ.out.sl (fun _ => rfl) (enc := encD); obtain ⟨_, _, e, _⟩ := this; injection e with _ e _; exact e.symm
          by_cases hxy : x'.number < y'.number
          · have hcv : cmpI x'.number y'.number = -1 := by unfold cmpI; rw [if_pos hxy]
            have HST := Lib.hid (show stopD S x' i = stopD S x' k by rw [ST.out, HK.out, stopD, HY.out]; simp only; rw [if_pos hxy])
            have HSW := Lib.hid (show ((putD S x' j ++ T).set j y').set k x' = putD S x' k ++ T by rw [HK.out]; exact putD_swap S T x' y' HY.out)
            go_wp2_with fail
            refine wp_region_tame (fun W => Ext wr W) (fun W W' => Ext W W') (by kernel_rfl) 53 rfl (by decide +kernel) (Ext.refl _).drew ?_
            repeat (apply tame_q rfl; (intro ρ W hC hr hD; (obtain ⟨hrc, hrg, hrf, hrs⟩ := hr); (simp [go_sem] at hD); go_simp; first | exact ⟨⟨hC, Ext.refl _⟩, rfl⟩ | exact ⟨⟨hC, RS.refl _⟩, rfl⟩ | exact rfl); simp only [List.nil_append, List.cons_append])
            apply tame_q rfl
            · intro ρ W hC hr hD
              obtain ⟨hrc, hrg, hrf, hrs⟩ := hr
              simp [go_sem] at hD
              go_simp
              refine (f36_any x' y' W).mono ?_
              rintro e w' ⟨rfl, hE⟩
              rw [hcv]
              exact ⟨_, rfl, ⟨hC.trans hE, hE⟩, rfl⟩
            simp only [List.nil_append, List.cons_append]
            repeat (apply tame_q rfl; (intro ρ W hC hr hD; (obtain ⟨hrc, hrg, hrf, hrs⟩ := hr); (simp [go_sem] at hD); go_simp; first | exact ⟨⟨hC, Ext.refl _⟩, rfl⟩ | exact ⟨⟨hC, RS.refl _⟩, rfl⟩ | exact rfl); simp only [List.nil_append, List.cons_append])
            refine tame_end 53 rfl rfl (fun ρ W hC hr hF => ?_)
            obtain ⟨hrc, hrg, hrf, hrs⟩ := hr
            simp [go_sem] at hF
            apply frame_to
            · go_simp
              exact rfl
            have OJ2 := Lib.hid (OJ.out.ext hC)
            have GJ2 := Lib.hid (grown_ext GJ.out hC)
            clear hF hrs hrc hrg hrf x0 x1 x2 x3 y0 y1 y2 y3 hC hcv
            generalize hm0 : putD S x' j ++ T = m0 at *
            go_wp2_with fail
            refine wp_region_tameN_cut (fun W' => W.grownBy W' (some g) ∧ ∃ m, Own encD 37 4 W' base (.slice (some ⟨g, 0, none⟩) n c) m ∧ m.length = n) (fun A B => Own encD 37 4 A base (.slice (some ⟨g, 0, none⟩) n c) (m0.set j y') → Own encD 37 4 B base (.slice (some ⟨g, 0, none⟩) n c) (m0.set j y')) (fun W' => Own encD 37 4 W' base (.slice (some ⟨g, 0, none⟩) n c) m0) 15 (by kernel_rfl) 53 rfl _ rfl (by decide +kernel) (by decide +kernel) (by decide +kernel) rfl ⟨⟨rfl, rfl, rfl, Nat.le_refl _, fun _ _ _ => rfl⟩, m0, OJ2.out, hml⟩ OJ2.out ?_
            simp only [List.dropLast]
            repeat (apply tameN_q rfl; (intro ρ W hC hN hr hD; (obtain ⟨hrc, hrg, hrf, hrs⟩ := hr); (simp [go_sem] at hD); go_simp; first | exact ⟨⟨hC, fun h => h, fun _ h => h⟩, rfl⟩ | exact ⟨hC, fun h => h, fun _ h => h⟩ | exact rfl); simp only [List.nil_append, List.cons_append])
            apply tameN_q rfl
            · intro ρ W' hC hN hr hD
              obtain ⟨hrc, hrg, hrf, hrs⟩ := hr
              simp [go_sem] at hD
              obtain ⟨b0, b1, b2, b3, bl⟩ := own_at37 (hN rfl) hmk
              go_simp
              first | exact ⟨⟨hC, fun h => h, fun _ h => h⟩, rfl⟩ | exact ⟨hC, fun h => h, fun _ h => h⟩
            simp only [List.nil_append, List.cons_append]
            repeat (apply tameN_q rfl; (intro ρ W hC hN hr hD; (obtain ⟨hrc, hrg, hrf, hrs⟩ := hr); (simp [go_sem] at hD); go_simp; first | exact ⟨⟨hC, fun h => h, fun _ h => h⟩, rfl⟩ | exact ⟨hC, fun h => h, fun _ h => h⟩ | exact rfl); simp only [List.nil_append, List.cons_append])
            apply tameN_q rfl
            · intro ρ W' hC hN hr hD
              obtain ⟨hrc, hrg, hrf, hrs⟩ := hr
              simp [go_sem] at hD
              obtain ⟨b0, b1, b2, b3, bl⟩ := own_at37 (hN rfl) hmj
              go_simp
              first | exact ⟨⟨hC, fun h => h, fun _ h => h⟩, rfl⟩ | exact ⟨hC, fun h => h, fun _ h => h⟩
            simp only [List.nil_append, List.cons_append]
            repeat (apply tameN_q rfl; (intro ρ W hC hN hr hD; (obtain ⟨hrc, hrg, hrf, hrs⟩ := hr); (simp [go_sem] at hD); go_simp; first | exact ⟨⟨hC, fun h => h, fun _ h => h⟩, rfl⟩ | exact ⟨hC, fun h => h, fun _ h => h⟩ | exact rfl); simp only [List.nil_append, List.cons_append])
            apply tameN_n (fun _ W' => Own encD 37 4 W' base (.slice (some ⟨g, 0, none⟩) n c) (m0.set j y')) (fun _ A B _ hR h => hR h)
            · intro ρ W' hC hN hr hD
              obtain ⟨hrc, hrg, hrf, hrs⟩ := hr
              simp [go_sem] at hD
              have h0 := hN rfl
              obtain ⟨a0, a1, a2, a3, al⟩ := own_at37 h0 hmj
              have df : ∀ k, W'.frozen? ⟨g, k, none⟩ = false := fun k => own_frozen h0 k
              have h4 := own_put4 (enc := encD) (fun _ => rfl) (x := y') rfl h0 hml.symm (show j < n from hjn)
              have H4 := Lib.hid h4; have HC := Lib.hid hC.1
              clear h4 h0 hN hC
              go_simp
              exact ⟨⟨⟨grown_set (grown_set (grown_set (grown_set HC.out (p := ⟨g, _, none⟩) (.inl rfl) _) (p := ⟨g, _, none⟩) (.inl rfl) _) (p := ⟨g, _, none⟩) (.inl rfl) _) (p := ⟨g, _, none⟩) (.inl rfl) _, _, H4.out, by rw [List.length_set]; exact hml⟩, fun _ => H4.out, fun h => by cases h⟩, H4.out⟩
            simp only [List.nil_append, List.cons_append]
            repeat (apply tameN_q rfl; (intro ρ W hC hN hr hD; (obtain ⟨hrc, hrg, hrf, hrs⟩ := hr); (simp [go_sem] at hD); go_simp; first | exact ⟨⟨hC, fun h => h, fun _ h => h⟩, rfl⟩ | exact ⟨hC, fun h => h, fun _ h => h⟩ | exact rfl); simp only [List.nil_append, List.cons_append])
            refine tameN_end 53 rfl rfl (fun ρ W' hC hr hF => ?_)
            obtain ⟨hrc, hrg, hrf, hrs⟩ := hr
            simp [go_sem] at hF
            obtain ⟨f37, f38, f39, f40, f41, f42, f43, f44, f45, f46, f47, f48, f49, f50, f51, fS, f52⟩ := hF
            apply frame_to
            · go_simp
              exact rfl
            have OJ4 := Lib.hid fS
            have GJ3 := Lib.hid (grown_tr GJ2.out hC.1)
            clear f37 f38 f39 f40 f41 f42 f43 f44 f45 f46 f47 f48 f49 f50 f51 fS f52 hrs hrc hrg hrf hC
            have hne : ¬ j = k := by have := HK.out; omega
            obtain ⟨b0, b1, b2, b3, bl⟩ := own_at37 OJ4.out (show (m0.set j y')[k]? = some y' by rw [List.getElem?_set, if_neg hne]; exact hmk)
            have df : ∀ k, W'.frozen? ⟨g, k, none⟩ = false := fun k => own_frozen OJ4.out k
            have OJ5 := Lib.hid (own_put4 (enc := encD) (fun _ => rfl) (x := x') rfl OJ4.out (by rw [List.length_set]; exact hml.symm) (show k < n from hkn))
            rw [HSW.out] at OJ5
            clear hmj hmk
            go_wp2
            go_roundg k
            case measure => have := HK.out; omega
            case rel => exact ⟨k, by have := HK.out; omega, by omega, rfl, OJ5.out, HST.out, grown_set (grown_set (grown_set (grown_set GJ3.out (p := ⟨g, _, none⟩) (.inl rfl) _) (p := ⟨g, _, none⟩) (.inl rfl) _) (p := ⟨g, _, none⟩) (.inl rfl) _) (p := ⟨g, _, none⟩) (.inl rfl) _⟩
          · have hcn : ¬ cmpI x'.number y'.number < 0 := by unfold cmpI; rw [if_neg hxy]; split <;> omega
            have hcd : decide (cmpI x'.number y'.number < 0) = false := decide_eq_false hcn
            have HFI := Lib.hid (show Own encD 37 4 wr base (.slice (some ⟨g, 0, none⟩) n c) (sortD l (i + 1) ++ T) by
              rw [HSS.out, ST.out, show stopD S x' j = j by rw [HK.out, stopD, HY.out]; simp only; rw [if_neg hxy]]
              exact OJ.out)
            go_wp2_with fail
            refine wp_region_tame (fun W => Ext wr W) (fun W W' => Ext W W') (by kernel_rfl) 53 rfl (by decide +kernel) (Ext.refl _).drew ?_
            repeat (apply tame_q rfl; (intro ρ W hC hr hD; (obtain ⟨hrc, hrg, hrf, hrs⟩ := hr); (simp [go_sem] at hD); go_simp; first | exact ⟨⟨hC, Ext.refl _⟩, rfl⟩ | exact ⟨⟨hC, RS.refl _⟩, rfl⟩ | exact rfl); simp only [List.nil_append, List.cons_append])
            apply tame_q rfl
            · intro ρ W hC hr hD
              obtain ⟨hrc, hrg, hrf, hrs⟩ := hr
              simp [go_sem] at hD
              go_simp
              refine (f36_any x' y' W).mono ?_
              rintro e w' ⟨rfl, hE⟩
              exact ⟨_, rfl, ⟨hC.trans hE, hE⟩, rfl⟩
            simp only [List.nil_append, List.cons_append]
            repeat (apply tame_q rfl; (intro ρ W hC hr hD; (obtain ⟨hrc, hrg, hrf, hrs⟩ := hr); (simp [go_sem] at hD); go_simp; first | exact ⟨⟨hC, Ext.refl _⟩, rfl⟩ | exact ⟨⟨hC, RS.refl _⟩, rfl⟩ | exact rfl); simp only [List.nil_append, List.cons_append])
            refine tame_end 53 rfl rfl (fun ρ W hC hr hF => ?_)
            obtain ⟨hrc, hrg, hrf, hrs⟩ := hr
            simp [go_sem] at hF
            apply frame_to
            · go_simp
              exact rfl
            have HFI := Lib.hid (HFI.out.ext hC)
            have GJ2 := Lib.hid (grown_ext GJ.out hC)
            clear hF hrs hrc hrg hrf x0 x1 x2 x3 y0 y1 y2 y3 hC
            go_wp2
            go_roundg (n - (i + 1))
            case measure => omega
            case rel => exact ⟨i + 1, by omega, by omega, by omega, by simp, by rw [HTT.out]; exact HFI.out, GJ2.out⟩
    · have hie : i = n := by omega
      subst hie
      have HF := Lib.hid (show sortD l i ++ l.drop i = sortD l i by rw [List.drop_eq_nil_of_le (by have := HN.out; omega), List.append_nil])
      go_wp2
      refine bodyPost_end (results_none rfl _ _ _) rfl ?_
      exact ⟨⟨_, rfl⟩, by rw [← HF.out]; exact OW.out, GW.out⟩

theorem f75_any (l : List Draw) (g n c base : Nat) (w : World) (hn : n = l.length) (hn0 : 0 < n) (hn20 : n < 20) (ho : Own encD 37 4 w base (.slice (some ⟨g, 0, none⟩) n c) l) :
    Calls Tryz.prog 75 #[.slice (some ⟨g, 0, none⟩) n c, .int .i64 (n : Int), .func (.func 36) #[] #[]] w fun e w' => (∃ v, e = .returned v) ∧ Own encD 37 4 w' base (.slice (some ⟨g, 0, none⟩) n c) (sortD l n) ∧ w.grownBy w' (some g) := by
  have HI := Lib.hid (f96_any l g n c base w hn hn0 (by omega) ho)
  have h1 : (n : Int) < 20 := by omega
  clear ho hn
  go_enter Tryz.func75, Tryz.ntmps75
  go_wp2
  go_loopg [7, 8] 1 (fun gg s7 s8 wr => gg = 1 ∧ s7 = .int .i64 0 ∧ s8 = .int .i64 20 ∧ wr = w)
  case atStart => exact ⟨rfl, rfl, rfl, rfl⟩
  case round =>
    obtain ⟨rfl, rfl, rfl, rfl⟩ := hrel
    go_wp2_with fail
    refine HI.out.mono ?_
    rintro e w2 ⟨⟨v, rfl⟩, ho, hg⟩
    have HO := Lib.hid ho; have HG := Lib.hid hg
    clear ho hg HI
    go_wp2
    go_loopg [6, 7, 8, 9] 1 (fun gg s6 s7 s8 _ wr => gg = 1 ∧ s6 = .int .i64 20 ∧ s7 = .int .i64 0 ∧ s8 = .int .i64 20 ∧ wr = w2)
    case atStart => exact ⟨rfl, rfl, rfl, rfl, rfl⟩
    case round =>
      obtain ⟨rfl, rfl, rfl, rfl, rfl⟩ := hrel
      go_wp2
      refine bodyPost_end (results_none rfl _ _ _) rfl ?_
      exact ⟨⟨_, rfl⟩, HO.out, HG.out⟩
theorem f35_any (l : List Draw) (g n c base : Nat) (w : World) (hn : n = l.length) (hn0 : 0 < n) (hn20 : n < 20) (ho : Own encD 37 4 w base (.slice (some ⟨g, 0, none⟩) n c) l) :
    Calls Tryz.prog 35 #[.slice (some ⟨g, 0, none⟩) n c, .func (.func 36) #[] #[]] w fun e w' => (∃ v, e = .returned v) ∧ Own encD 37 4 w' base (.slice (some ⟨g, 0, none⟩) n c) (sortD l n) ∧ w.grownBy w' (some g) := by
  have HI := Lib.hid (f75_any l g n c base w hn hn0 hn20 ho)
  clear ho hn
  go_enter Tryz.func35, Tryz.ntmps35
  go_wp2_with fail
  refine HI.out.mono ?_
  rintro e w2 ⟨⟨v, rfl⟩, ho, hg⟩
  have HO := Lib.hid ho; have HG := Lib.hid hg
  clear ho hg HI
  go_wp2
  refine bodyPost_end (results_none rfl _ _ _) rfl ?_
  exact ⟨⟨_, rfl⟩, HO.out, HG.out⟩
theorem own_at41 {W : World} {base g n c k : Nat} {m : List Weigh} {y : Weigh} (h : Own encW 41 4 W base (.slice (some ⟨g, 0, none⟩) n c) m) (hy : m[k]? = some y) :
    W.cell? ⟨g, k * 4, none⟩ = some (.int .i64 y.number) ∧ W.cell? ⟨g, k * 4 + 1, none⟩ = some (.int .i64 y.pounds) ∧ W.cell? ⟨g, k * 4 + 2, none⟩ = some (.int .i64 y.damp.lo) ∧ W.cell? ⟨g, k * 4 + 3, none⟩ = some (.int .i64 y.damp.hi) ∧ g < W.heap.size := by
  have hsl : SlW W (.slice (some ⟨g, 0, none⟩) n c) m := h.sl (fun _ => rfl)
  have hk : k < n := by
    have h1 := (List.getElem?_eq_some_iff.1 hy).1
    obtain ⟨_, _, e, _⟩ := hsl
    injection e with _ e _
    omega
  obtain ⟨bb, off, y', e1, hy', hb, hc⟩ := hsl.at_ hk
  injection e1 with e1
  injection e1 with e1 e2 _
  subst e1 e2
  rw [hy] at hy'
  injection hy' with hy'
  subst hy'
  obtain ⟨c0, c1, c2, c3⟩ := SlW.cells hc (Ext.refl _)
  simp only [Nat.zero_add] at c0 c1 c2 c3
  exact ⟨c0, c1, c2, c3, hb⟩
theorem f39_any (x y : Weigh) (w : World) : Calls Tryz.prog 39 #[valW x, valW y] w fun e w' => e = .returned (.int .i64 (cmpI x.number y.number)) ∧ Ext w w' := by
  dsimp only [valW]
  go_enter Tryz.func39, Tryz.ntmps39
  go_wp2_with fail
  refine (compare_any x.number y.number _).mono ?_
  rintro e w1 ⟨rfl, hE1⟩
  have HE1 := Lib.hid ((((Ext.al _ _).alloc _ : Ext w _)).trans hE1); clear hE1
  go_wp2
  go_ret
  exact ⟨rfl, HE1.out⟩

/-- Where a draw comes to stand. -/
def stopW (S : List Weigh) (x : Weigh) : Nat → Nat
  | 0 => 0
  | j + 1 => match S[j]? with
    | some y => if x.number < y.number then stopW S x j else j + 1
    | none => j + 1
def putW (S : List Weigh) (x : Weigh) (j : Nat) : List Weigh := S.take j ++ x :: S.drop j
def sortW (l : List Weigh) : Nat → List Weigh
  | 0 => []
  | k + 1 => match l[k]? with
    | some x => putW (sortW l k) x (stopW (sortW l k) x k)
    | none => sortW l k
theorem stopW_le (S : List Weigh) (x : Weigh) : ∀ j, stopW S x j ≤ j
  | 0 => Nat.le_refl _
  | j + 1 => by
    unfold stopW
    split
    · split
      · exact Nat.le_succ_of_le (stopW_le S x j)
      · exact Nat.le_refl _
    · exact Nat.le_refl _
theorem putW_len (S : List Weigh) (x : Weigh) {j : Nat} (hj : j ≤ S.length) : (putW S x j).length = S.length + 1 := by unfold putW; simp; omega
theorem sortW_len (l : List Weigh) : ∀ k, k ≤ l.length → (sortW l k).length = k
  | 0, _ => rfl
  | k + 1, h => by
    have ih := sortW_len l k (by omega)
    unfold sortW
    rw [List.getElem?_eq_getElem (show k < l.length by omega)]
    simp only
    rw [putW_len _ _ (by rw [ih]; exact stopW_le _ _ _), ih]
theorem putW_at (S T : List Weigh) (x : Weigh) {j : Nat} (hj : j ≤ S.length) : (putW S x j ++ T)[j]? = some x := by
  unfold putW
  rw [List.append_assoc, List.getElem?_append_right (by simp; omega)]
  simp [List.length_take, Nat.min_eq_left hj]
theorem putW_before (S T : List Weigh) (x : Weigh) {j : Nat} (hj : j < S.length) : (putW S x (j + 1) ++ T)[j]? = S[j]? := by
  unfold putW
  rw [List.append_assoc, List.getElem?_append_left (by simp; omega), List.getElem?_take, if_pos (by omega)]
theorem putW_swap (S T : List Weigh) (x y : Weigh) {j : Nat} (hy : S[j]? = some y) : ((putW S x (j + 1) ++ T).set (j + 1) y).set j x = putW S x j ++ T := by
  have hj : j < S.length := (List.getElem?_eq_some_iff.1 hy).1
  have h1 : S.take (j + 1) = S.take j ++ [y] := by rw [List.take_add_one, hy]; rfl
  have h2 : S.drop j = y :: S.drop (j + 1) := drop_at hy
  unfold putW
  rw [h1, h2]
  have hl : (S.take j).length = j := by simp; omega
  rw [show List.take j S ++ [y] ++ x :: List.drop (j + 1) S ++ T = List.take j S ++ (y :: x :: (List.drop (j + 1) S ++ T)) by simp]
  rw [List.set_append_right (j + 1) y (by omega), List.set_append_right j x (by omega), hl]
  rw [show j + 1 - j = 1 by omega, Nat.sub_self]
  simp
theorem putW_end (S T : List Weigh) (x : Weigh) : putW S x S.length ++ T = S ++ (x :: T) := by unfold putW; simp

set_option maxHeartbeats 2000000 in
theorem f98_any (l : List Weigh) (g n c base : Nat) (w : World) (hn : n = l.length) (hn0 : 0 < n) (hn20 : n ≤ 20) (ho : Own encW 41 4 w base (.slice (some ⟨g, 0, none⟩) n c) l) :
    Calls Tryz.prog 98 #[.slice (some ⟨g, 0, none⟩) n c, .int .i64 0, .int .i64 (n : Int), .func (.func 39) #[] #[]] w fun e w' => (∃ v, e = .returned v) ∧ Own encW 41 4 w' base (.slice (some ⟨g, 0, none⟩) n c) (sortW l n) ∧ w.grownBy w' (some g) := by
  have HO := Lib.hid ho
  have HN := Lib.hid hn
  have eg : ∀ args w, (callFunc 39 args).run Tryz.prog w = .ok (.enter 39 args) w := enters_of Tryz.func39 (by kernel_rfl) rfl
  clear ho hn
  go_enter Tryz.func98, Tryz.ntmps98
  go_wp2
  go_loopg [8, 9] n (fun gg s8 _ wr => ∃ i : Nat, 1 ≤ i ∧ i ≤ n ∧ n - i ≤ gg ∧ s8 = .int .i64 (i : Int) ∧ Aside (Own encW 41 4 wr base (.slice (some ⟨g, 0, none⟩) n c) (sortW l i ++ l.drop i)) ∧ Aside (w.grownBy wr (some g)))
  case atStart => exact ⟨1, by omega, by omega, by omega, rfl, by
    have h0 : 0 < l.length := by have := HN.out; omega
    have : sortW l 1 ++ l.drop 1 = l := by
      match l, h0 with
      | x :: r, _ => simp [sortW, stopW, putW]
    rw [this]; exact HO.out, World.grownBy.refl _ _⟩
  case round =>
    obtain ⟨i, hi1, hin, hgg, rfl, OW, GW⟩ := hrel
    by_cases hiN : i < n
    · have hiz : (i : Int) < (n : Int) := by omega
      obtain ⟨x, hx⟩ : ∃ x, l[i]? = some x := ⟨_, List.getElem?_eq_getElem (by have := HN.out; omega)⟩
      have HX := Lib.hid hx
      have HSL := Lib.hid (sortW_len l i (by have := HN.out; omega))
      have HSS := Lib.hid (show sortW l (i + 1) = putW (sortW l i) x (stopW (sortW l i) x i) by rw [sortW, hx])
      have HDR := Lib.hid (show sortW l i ++ l.drop i = putW (sortW l i) x i ++ l.drop (i + 1) by
        rw [drop_at hx]
        have := putW_end (sortW l i) (l.drop (i + 1)) x
        rw [HSL.out] at this
        exact this.symm)
      rw [HDR.out] at OW
      clear hx
      generalize sortW l i = S at *
      generalize hTT : l.drop (i + 1) = T at *
      have HTT := Lib.hid hTT; clear hTT
      obtain ⟨wo, hwo⟩ : ∃ wo : World, wo = wr := ⟨_, rfl⟩
      subst hwo
      go_wp2_with fail
      go_loopg [9] i (fun gg s9 wr => ∃ j : Nat, j ≤ i ∧ j ≤ gg ∧ s9 = .int .i64 (j : Int) ∧ Aside (Own encW 41 4 wr base (.slice (some ⟨g, 0, none⟩) n c) (putW S x j ++ T)) ∧ Aside (stopW S x i = stopW S x j) ∧ Aside (w.grownBy wr (some g)))
      case atStart => exact ⟨i, by omega, by omega, rfl, OW.out, rfl, GW.out⟩
      case round =>
        obtain ⟨j, hji, hgj, rfl, OJ, ST, GJ⟩ := hrel
        by_cases hj0 : j = 0
        · subst hj0
          have HFI := Lib.hid (show Own encW 41 4 wr base (.slice (some ⟨g, 0, none⟩) n c) (sortW l (i + 1) ++ T) by rw [HSS.out, ST.out]; exact OJ.out)
          go_wp2_with fail
          refine wp_region_tame (fun W => Ext wr W) (fun W W' => Ext W W') (by kernel_rfl) 53 rfl (by decide +kernel) (Ext.refl _).drew ?_
          repeat (apply tame_q rfl; (intro ρ W hC hr hD; (obtain ⟨hrc, hrg, hrf, hrs⟩ := hr); (simp [go_sem] at hD); go_simp; first | exact ⟨⟨hC, Ext.refl _⟩, rfl⟩ | exact ⟨⟨hC, RS.refl _⟩, rfl⟩ | exact rfl); simp only [List.nil_append, List.cons_append])
          refine tame_end 53 rfl rfl (fun ρ W hC hr hF => ?_)
          obtain ⟨hrc, hrg, hrf, hrs⟩ := hr
          simp [go_sem] at hF
          apply frame_to
          · go_simp
            exact rfl
          have HFI := Lib.hid (HFI.out.ext hC)
          have GJ2 := Lib.hid (grown_ext GJ.out hC)
          clear hF hrs hrc hrg hrf hC
          go_wp2
          go_roundg (n - (i + 1))
          case measure => omega
          case rel => exact ⟨i + 1, by omega, by omega, by omega, by simp, by rw [HTT.out]; exact HFI.out, GJ2.out⟩
        · obtain ⟨k, hk⟩ : ∃ k, j = k + 1 := ⟨j - 1, by omega⟩
          have HK := Lib.hid hk
          have hkn : k < n := by omega
          have hjn : j < n := by omega
          have hjS : j ≤ S.length := by have := HSL.out; omega
          obtain ⟨y, hy⟩ : ∃ y, S[k]? = some y := ⟨_, List.getElem?_eq_getElem (by omega)⟩
          have HY := Lib.hid hy
          have hsl : SlW wr (.slice (some ⟨g, 0, none⟩) n c) (putW S x j ++ T) := OJ.out.sl (fun _ => rfl)
          obtain ⟨bb, off, x', e1, hx', -, hxc⟩ := hsl.at_ hjn
          injection e1 with e1
          injection e1 with e1 e2 _
          subst e1 e2
          obtain rfl : x' = x := by rw [putW_at S T x hjS] at hx'; injection hx' with h; exact h.symm
          obtain ⟨bb, off, y', e1, hy', -, hyc⟩ := hsl.at_ hkn
          injection e1 with e1
          injection e1 with e1 e2 _
          subst e1 e2
          obtain rfl : y' = y := by rw [hk, putW_before S T x' (by omega), hy] at hy'; injection hy' with h; exact h.symm
          have cx := fun W (h : Ext wr W) => SlW.cells hxc h
          have cy := fun W (h : Ext wr W) => SlW.cells hyc h
          simp only [Nat.zero_add] at cx cy
          have x0 := fun W (h : Ext wr W) => (cx W h).1
          have x1 := fun W (h : Ext wr W) => (cx W h).2.1
          have x2 := fun W (h : Ext wr W) => (cx W h).2.2.1
          have x3 := fun W (h : Ext wr W) => (cx W h).2.2.2
          have y0 := fun W (h : Ext wr W) => (cy W h).1
          have y1 := fun W (h : Ext wr W) => (cy W h).2.1
          have y2 := fun W (h : Ext wr W) => (cy W h).2.2.1
          have y3 := fun W (h : Ext wr W) => (cy W h).2.2.2
          have hjz : (0 : Int) < (j : Int) := by omega
          have hjp : 0 < j := by omega
          have hjz2 : (j : Int) < (n : Int) := by omega
          have hjs : (j : Int) - 1 = (k : Int) := by omega
          have hkz2 : (k : Int) < (n : Int) := by omega
          clear hk hx' hy' hsl hy cx cy hxc hyc
          have hwk := wrap_nat (k := k) (by omega)
          have hmj : (putW S x' j ++ T)[j]? = some x' := putW_at S T x' hjS
          have hmk : (putW S x' j ++ T)[k]? = some y' := by rw [HK.out, putW_before S T x' (by have := HK.out; omega)]; exact HY.out
          have hml : (putW S x' j ++ T).length = n := by have := OJ.out.sl (fun _ => rfl) (enc := encW); obtain ⟨_, _, e, _⟩ := this; injection e with _ e _; exact e.symm
          by_cases hxy : x'.number < y'.number
          · have hcv : cmpI x'.number y'.number = -1 := by unfold cmpI; rw [if_pos hxy]
            have HST := Lib.hid (show stopW S x' i = stopW S x' k by rw [ST.out, HK.out, stopW, HY.out]; simp only; rw [if_pos hxy])
            have HSW := Lib.hid (show ((putW S x' j ++ T).set j y').set k x' = putW S x' k ++ T by rw [HK.out]; exact putW_swap S T x' y' HY.out)
            go_wp2_with fail
            refine wp_region_tame (fun W => Ext wr W) (fun W W' => Ext W W') (by kernel_rfl) 53 rfl (by decide +kernel) (Ext.refl _).drew ?_
            repeat (apply tame_q rfl; (intro ρ W hC hr hD; (obtain ⟨hrc, hrg, hrf, hrs⟩ := hr); (simp [go_sem] at hD); go_simp; first | exact ⟨⟨hC, Ext.refl _⟩, rfl⟩ | exact ⟨⟨hC, RS.refl _⟩, rfl⟩ | exact rfl); simp only [List.nil_append, List.cons_append])
            apply tame_q rfl
            · intro ρ W hC hr hD
              obtain ⟨hrc, hrg, hrf, hrs⟩ := hr
              simp [go_sem] at hD
              go_simp
              refine (f39_any x' y' W).mono ?_
              rintro e w' ⟨rfl, hE⟩
              rw [hcv]
              exact ⟨_, rfl, ⟨hC.trans hE, hE⟩, rfl⟩
            simp only [List.nil_append, List.cons_append]
            repeat (apply tame_q rfl; (intro ρ W hC hr hD; (obtain ⟨hrc, hrg, hrf, hrs⟩ := hr); (simp [go_sem] at hD); go_simp; first | exact ⟨⟨hC, Ext.refl _⟩, rfl⟩ | exact ⟨⟨hC, RS.refl _⟩, rfl⟩ | exact rfl); simp only [List.nil_append, List.cons_append])
            refine tame_end 53 rfl rfl (fun ρ W hC hr hF => ?_)
            obtain ⟨hrc, hrg, hrf, hrs⟩ := hr
            simp [go_sem] at hF
            apply frame_to
            · go_simp
              exact rfl
            have OJ2 := Lib.hid (OJ.out.ext hC)
            have GJ2 := Lib.hid (grown_ext GJ.out hC)
            clear hF hrs hrc hrg hrf x0 x1 x2 x3 y0 y1 y2 y3 hC hcv
            generalize hm0 : putW S x' j ++ T = m0 at *
            go_wp2_with fail
            refine wp_region_tameN_cut (fun W' => W.grownBy W' (some g) ∧ ∃ m, Own encW 41 4 W' base (.slice (some ⟨g, 0, none⟩) n c) m ∧ m.length = n) (fun A B => Own encW 41 4 A base (.slice (some ⟨g, 0, none⟩) n c) (m0.set j y') → Own encW 41 4 B base (.slice (some ⟨g, 0, none⟩) n c) (m0.set j y')) (fun W' => Own encW 41 4 W' base (.slice (some ⟨g, 0, none⟩) n c) m0) 15 (by kernel_rfl) 53 rfl _ rfl (by decide +kernel) (by decide +kernel) (by decide +kernel) rfl ⟨⟨rfl, rfl, rfl, Nat.le_refl _, fun _ _ _ => rfl⟩, m0, OJ2.out, hml⟩ OJ2.out ?_
            simp only [List.dropLast]
            repeat (apply tameN_q rfl; (intro ρ W hC hN hr hD; (obtain ⟨hrc, hrg, hrf, hrs⟩ := hr); (simp [go_sem] at hD); go_simp; first | exact ⟨⟨hC, fun h => h, fun _ h => h⟩, rfl⟩ | exact ⟨hC, fun h => h, fun _ h => h⟩ | exact rfl); simp only [List.nil_append, List.cons_append])
            apply tameN_q rfl
            · intro ρ W' hC hN hr hD
              obtain ⟨hrc, hrg, hrf, hrs⟩ := hr
              simp [go_sem] at hD
              obtain ⟨b0, b1, b2, b3, bl⟩ := own_at41 (hN rfl) hmk
              go_simp
              first | exact ⟨⟨hC, fun h => h, fun _ h => h⟩, rfl⟩ | exact ⟨hC, fun h => h, fun _ h => h⟩
            simp only [List.nil_append, List.cons_append]
            repeat (apply tameN_q rfl; (intro ρ W hC hN hr hD; (obtain ⟨hrc, hrg, hrf, hrs⟩ := hr); (simp [go_sem] at hD); go_simp; first | exact ⟨⟨hC, fun h => h, fun _ h => h⟩, rfl⟩ | exact ⟨hC, fun h => h, fun _ h => h⟩ | exact rfl); simp only [List.nil_append, List.cons_append])
            apply tameN_q rfl
            · intro ρ W' hC hN hr hD
              obtain ⟨hrc, hrg, hrf, hrs⟩ := hr
              simp [go_sem] at hD
              obtain ⟨b0, b1, b2, b3, bl⟩ := own_at41 (hN rfl) hmj
              go_simp
              first | exact ⟨⟨hC, fun h => h, fun _ h => h⟩, rfl⟩ | exact ⟨hC, fun h => h, fun _ h => h⟩
            simp only [List.nil_append, List.cons_append]
            repeat (apply tameN_q rfl; (intro ρ W hC hN hr hD; (obtain ⟨hrc, hrg, hrf, hrs⟩ := hr); (simp [go_sem] at hD); go_simp; first | exact ⟨⟨hC, fun h => h, fun _ h => h⟩, rfl⟩ | exact ⟨hC, fun h => h, fun _ h => h⟩ | exact rfl); simp only [List.nil_append, List.cons_append])
            apply tameN_n (fun _ W' => Own encW 41 4 W' base (.slice (some ⟨g, 0, none⟩) n c) (m0.set j y')) (fun _ A B _ hR h => hR h)
            · intro ρ W' hC hN hr hD
              obtain ⟨hrc, hrg, hrf, hrs⟩ := hr
              simp [go_sem] at hD
              have h0 := hN rfl
              obtain ⟨a0, a1, a2, a3, al⟩ := own_at41 h0 hmj
              have df : ∀ k, W'.frozen? ⟨g, k, none⟩ = false := fun k => own_frozen h0 k
              have h4 := own_put4 (enc := encW) (fun _ => rfl) (x := y') rfl h0 hml.symm (show j < n from hjn)
              have H4 := Lib.hid h4; have HC := Lib.hid hC.1
              clear h4 h0 hN hC
              go_simp
              exact ⟨⟨⟨grown_set (grown_set (grown_set (grown_set HC.out (p := ⟨g, _, none⟩) (.inl rfl) _) (p := ⟨g, _, none⟩) (.inl rfl) _) (p := ⟨g, _, none⟩) (.inl rfl) _) (p := ⟨g, _, none⟩) (.inl rfl) _, _, H4.out, by rw [List.length_set]; exact hml⟩, fun _ => H4.out, fun h => by cases h⟩, H4.out⟩
            simp only [List.nil_append, List.cons_append]
            repeat (apply tameN_q rfl; (intro ρ W hC hN hr hD; (obtain ⟨hrc, hrg, hrf, hrs⟩ := hr); (simp [go_sem] at hD); go_simp; first | exact ⟨⟨hC, fun h => h, fun _ h => h⟩, rfl⟩ | exact ⟨hC, fun h => h, fun _ h => h⟩ | exact rfl); simp only [List.nil_append, List.cons_append])
            refine tameN_end 53 rfl rfl (fun ρ W' hC hr hF => ?_)
            obtain ⟨hrc, hrg, hrf, hrs⟩ := hr
            simp [go_sem] at hF
            obtain ⟨f37, f38, f39, f40, f41, f42, f43, f44, f45, f46, f47, f48, f49, f50, f51, fS, f52⟩ := hF
            apply frame_to
            · go_simp
              exact rfl
            have OJ4 := Lib.hid fS
            have GJ3 := Lib.hid (grown_tr GJ2.out hC.1)
            clear f37 f38 f39 f40 f41 f42 f43 f44 f45 f46 f47 f48 f49 f50 f51 fS f52 hrs hrc hrg hrf hC
            have hne : ¬ j = k := by have := HK.out; omega
            obtain ⟨b0, b1, b2, b3, bl⟩ := own_at41 OJ4.out (show (m0.set j y')[k]? = some y' by rw [List.getElem?_set, if_neg hne]; exact hmk)
            have df : ∀ k, W'.frozen? ⟨g, k, none⟩ = false := fun k => own_frozen OJ4.out k
            have OJ5 := Lib.hid (own_put4 (enc := encW) (fun _ => rfl) (x := x') rfl OJ4.out (by rw [List.length_set]; exact hml.symm) (show k < n from hkn))
            rw [HSW.out] at OJ5
            clear hmj hmk
            go_wp2
            go_roundg k
            case measure => have := HK.out; omega
            case rel => exact ⟨k, by have := HK.out; omega, by omega, rfl, OJ5.out, HST.out, grown_set (grown_set (grown_set (grown_set GJ3.out (p := ⟨g, _, none⟩) (.inl rfl) _) (p := ⟨g, _, none⟩) (.inl rfl) _) (p := ⟨g, _, none⟩) (.inl rfl) _) (p := ⟨g, _, none⟩) (.inl rfl) _⟩
          · have hcn : ¬ cmpI x'.number y'.number < 0 := by unfold cmpI; rw [if_neg hxy]; split <;> omega
            have hcd : decide (cmpI x'.number y'.number < 0) = false := decide_eq_false hcn
            have HFI := Lib.hid (show Own encW 41 4 wr base (.slice (some ⟨g, 0, none⟩) n c) (sortW l (i + 1) ++ T) by
              rw [HSS.out, ST.out, show stopW S x' j = j by rw [HK.out, stopW, HY.out]; simp only; rw [if_neg hxy]]
              exact OJ.out)
            go_wp2_with fail
            refine wp_region_tame (fun W => Ext wr W) (fun W W' => Ext W W') (by kernel_rfl) 53 rfl (by decide +kernel) (Ext.refl _).drew ?_
            repeat (apply tame_q rfl; (intro ρ W hC hr hD; (obtain ⟨hrc, hrg, hrf, hrs⟩ := hr); (simp [go_sem] at hD); go_simp; first | exact ⟨⟨hC, Ext.refl _⟩, rfl⟩ | exact ⟨⟨hC, RS.refl _⟩, rfl⟩ | exact rfl); simp only [List.nil_append, List.cons_append])
            apply tame_q rfl
            · intro ρ W hC hr hD
              obtain ⟨hrc, hrg, hrf, hrs⟩ := hr
              simp [go_sem] at hD
              go_simp
              refine (f39_any x' y' W).mono ?_
              rintro e w' ⟨rfl, hE⟩
              exact ⟨_, rfl, ⟨hC.trans hE, hE⟩, rfl⟩
            simp only [List.nil_append, List.cons_append]
            repeat (apply tame_q rfl; (intro ρ W hC hr hD; (obtain ⟨hrc, hrg, hrf, hrs⟩ := hr); (simp [go_sem] at hD); go_simp; first | exact ⟨⟨hC, Ext.refl _⟩, rfl⟩ | exact ⟨⟨hC, RS.refl _⟩, rfl⟩ | exact rfl); simp only [List.nil_append, List.cons_append])
            refine tame_end 53 rfl rfl (fun ρ W hC hr hF => ?_)
            obtain ⟨hrc, hrg, hrf, hrs⟩ := hr
            simp [go_sem] at hF
            apply frame_to
            · go_simp
              exact rfl
            have HFI := Lib.hid (HFI.out.ext hC)
            have GJ2 := Lib.hid (grown_ext GJ.out hC)
            clear hF hrs hrc hrg hrf x0 x1 x2 x3 y0 y1 y2 y3 hC
            go_wp2
            go_roundg (n - (i + 1))
            case measure => omega
            case rel => exact ⟨i + 1, by omega, by omega, by omega, by simp, by rw [HTT.out]; exact HFI.out, GJ2.out⟩
    · have hie : i = n := by omega
      subst hie
      have HF := Lib.hid (show sortW l i ++ l.drop i = sortW l i by rw [List.drop_eq_nil_of_le (by have := HN.out; omega), List.append_nil])
      go_wp2
      refine bodyPost_end (results_none rfl _ _ _) rfl ?_
      exact ⟨⟨_, rfl⟩, by rw [← HF.out]; exact OW.out, GW.out⟩

theorem f77_any (l : List Weigh) (g n c base : Nat) (w : World) (hn : n = l.length) (hn0 : 0 < n) (hn20 : n < 20) (ho : Own encW 41 4 w base (.slice (some ⟨g, 0, none⟩) n c) l) :
    Calls Tryz.prog 77 #[.slice (some ⟨g, 0, none⟩) n c, .int .i64 (n : Int), .func (.func 39) #[] #[]] w fun e w' => (∃ v, e = .returned v) ∧ Own encW 41 4 w' base (.slice (some ⟨g, 0, none⟩) n c) (sortW l n) ∧ w.grownBy w' (some g) := by
  have HI := Lib.hid (f98_any l g n c base w hn hn0 (by omega) ho)
  have h1 : (n : Int) < 20 := by omega
  clear ho hn
  go_enter Tryz.func77, Tryz.ntmps77
  go_wp2
  go_loopg [7, 8] 1 (fun gg s7 s8 wr => gg = 1 ∧ s7 = .int .i64 0 ∧ s8 = .int .i64 20 ∧ wr = w)
  case atStart => exact ⟨rfl, rfl, rfl, rfl⟩
  case round =>
    obtain ⟨rfl, rfl, rfl, rfl⟩ := hrel
    go_wp2_with fail
    refine HI.out.mono ?_
    rintro e w2 ⟨⟨v, rfl⟩, ho, hg⟩
    have HO := Lib.hid ho; have HG := Lib.hid hg
    clear ho hg HI
    go_wp2
    go_loopg [6, 7, 8, 9] 1 (fun gg s6 s7 s8 _ wr => gg = 1 ∧ s6 = .int .i64 20 ∧ s7 = .int .i64 0 ∧ s8 = .int .i64 20 ∧ wr = w2)
    case atStart => exact ⟨rfl, rfl, rfl, rfl, rfl⟩
    case round =>
      obtain ⟨rfl, rfl, rfl, rfl, rfl⟩ := hrel
      go_wp2
      refine bodyPost_end (results_none rfl _ _ _) rfl ?_
      exact ⟨⟨_, rfl⟩, HO.out, HG.out⟩
theorem f38_any (l : List Weigh) (g n c base : Nat) (w : World) (hn : n = l.length) (hn0 : 0 < n) (hn20 : n < 20) (ho : Own encW 41 4 w base (.slice (some ⟨g, 0, none⟩) n c) l) :
    Calls Tryz.prog 38 #[.slice (some ⟨g, 0, none⟩) n c, .func (.func 39) #[] #[]] w fun e w' => (∃ v, e = .returned v) ∧ Own encW 41 4 w' base (.slice (some ⟨g, 0, none⟩) n c) (sortW l n) ∧ w.grownBy w' (some g) := by
  have HI := Lib.hid (f77_any l g n c base w hn hn0 hn20 ho)
  clear ho hn
  go_enter Tryz.func38, Tryz.ntmps38
  go_wp2_with fail
  refine HI.out.mono ?_
  rintro e w2 ⟨⟨v, rfl⟩, ho, hg⟩
  have HO := Lib.hid ho; have HG := Lib.hid hg
  clear ho hg HI
  go_wp2
  refine bodyPost_end (results_none rfl _ _ _) rfl ?_
  exact ⟨⟨_, rfl⟩, HO.out, HG.out⟩
end Go.Proofs.YtfhmfbhpehldpaaGreatDoor
/- core.without: a bale without some draws and weighings. -/
namespace Go.Proofs.YtfhmfbhpehldpaaGreatDoor
open Go.RowKit Go.Shelf Go.Lib
set_option maxRecDepth 100000
set_option linter.unusedSimpArgs false

theorem contains_any (l : List Int) (v : Value) (x : Int) (w : World) (hs : SlI w v l) :
    Calls Tryz.prog 90 #[v, .int .i64 x] w fun e w' => e = .returned (.bool (l.any fun y => decide (x = y))) ∧ Ext w w' := by
  have HS := Lib.hid hs
  obtain ⟨A, n, c, rfl, hn, hlc, hcm⟩ := hs.form
  have HI := Lib.hid (f46_any l x _ w HS.out)
  clear hs
  go_enter Tryz.func90, Tryz.ntmps90
  go_wp2_with fail
  refine HI.out.mono ?_
  rintro e w1 ⟨rfl, hE⟩
  have HE := Lib.hid hE; clear hE
  go_wp2
  go_ret
  exact ⟨ret_bool (idxF_any _ l), HE.out⟩

theorem f89_any (l : List Int) (A : Option Addr) (n c bl : Nat) (x : Draw) (w : World) (hb : w.cell? ⟨bl, 0, none⟩ = some (.slice A n c)) (hs : SlI w (.slice A n c) l) :
    Calls Tryz.prog 89 #[valD x, .pointer (some ⟨bl, 0, none⟩)] w fun e w' => e = .returned (.bool (l.any fun y => decide (x.number = y))) ∧ Ext w w' := by
  have HS := Lib.hid hs
  have hlt := (is_cells hb).1
  clear hs
  dsimp only [valD]
  go_enter Tryz.func89, Tryz.ntmps89
  go_wp2_with fail
  refine (contains_any l _ x.number _ (HS.out.ext (Ext.al _ _))).mono ?_
  rintro e w1 ⟨rfl, hE⟩
  have HE := Lib.hid ((Ext.al _ _).trans hE); clear hE
  go_wp2
  go_ret
  exact ⟨rfl, HE.out⟩
theorem f92_any (l : List Int) (A : Option Addr) (n c bl : Nat) (x : Weigh) (w : World) (hb : w.cell? ⟨bl, 0, none⟩ = some (.slice A n c)) (hs : SlI w (.slice A n c) l) :
    Calls Tryz.prog 92 #[valW x, .pointer (some ⟨bl, 0, none⟩)] w fun e w' => e = .returned (.bool (l.any fun y => decide (x.number = y))) ∧ Ext w w' := by
  have HS := Lib.hid hs
  have hlt := (is_cells hb).1
  clear hs
  dsimp only [valW]
  go_enter Tryz.func92, Tryz.ntmps92
  go_wp2_with fail
  refine (contains_any l _ x.number _ (HS.out.ext (Ext.al _ _))).mono ?_
  rintro e w1 ⟨rfl, hE⟩
  have HE := Lib.hid ((Ext.al _ _).trans hE); clear hE
  go_wp2
  go_ret
  exact ⟨rfl, HE.out⟩

theorem own_heap {α : Type} {enc : α → List Value} {sz base : Nat} {e : TypeId} {w : World} {v : Value} {l : List α} (h : Own enc e sz w base v l) : ∀ g, v.ownBlock = some g → ∃ cur, w.heap[g]? = some (.cells cur e (0, 0)) := by
  intro g hg
  rcases h.2 with ⟨rfl, _⟩ | ⟨g', cap, cur, rfl, hb, hh, _⟩
  · cases hg
  · simp [Value.ownBlock] at hg
    subst hg
    exact ⟨cur, hh⟩
theorem own_apart {α β : Type} {enc : α → List Value} {enc' : β → List Value} {sz sz' base base' : Nat} {e e' : TypeId} {w w' : World} {v v' : Value} {l : List α} {l' : List β} (h : Own enc e sz w base v l) (h' : Own enc' e' sz' w base' v' l') (hne : e ≠ e') (hg : w.grownBy w' v'.ownBlock) : Own enc e sz w' base v l := by
  refine World.ownsRow.kept h hg ?_
  cases hv : v.ownBlock with
  | none => exact .inl rfl
  | some g =>
    refine .inr fun e1 => ?_
    obtain ⟨cur, h1⟩ := own_heap h g hv
    obtain ⟨cur', h2⟩ := own_heap h' g e1.symm
    rw [h1] at h2
    injection h2 with h2
    injection h2 with _ h2 _
    exact hne h2
theorem own_below {α : Type} {enc : α → List Value} {sz base : Nat} {e : TypeId} {w w' : World} {v : Value} {l : List α} (h : Own enc e sz w base v l) (hb : base ≤ w.heap.size) (hg : w.grownBy w' v.ownBlock) : Below base w w' :=
  (Below.refl base w).grown hg hb (fun k hk => (World.ownsRow.lt h k hk).1)
theorem own_set {α : Type} {enc : α → List Value} {sz base g i : Nat} {e : TypeId} {w : World} {v u : Value} {l : List α} (h : Own enc e sz w base v l) (hg : g < base) : Own enc e sz (w.setCell ⟨g, i, none⟩ u) base v l := h.far hg u
def withB (b : Bale) (l k : List Int) : Bale := ⟨b.id, b.layers, b.dry, b.draws.filter fun x => !(l.any fun y => decide (x.number = y)), b.weighs.filter fun x => !(k.any fun y => decide (x.number = y))⟩

set_option maxHeartbeats 2000000 in
theorem without_any (b : Bale) (l k : List Int) (dv wv lv kv : Value) (w : World) (hd : SlD w dv b.draws) (hw : SlW w wv b.weighs) (hl : SlI w lv l) (hk : SlI w kv k) (hld : b.draws.length ≤ 1000) (hlw : b.weighs.length ≤ 1000) :
    Calls Tryz.prog 67 #[valB b dv wv, lv, kv] w fun e w' => (∃ v, e = .returned v ∧ TwinV (withB b l k) w.heap.size v w') ∧ Ext w w' := by
  have HD := Lib.hid hd; have HW := Lib.hid hw; have HL := Lib.hid hl; have HK := Lib.hid hk
  obtain ⟨A, n, cp, rfl, hn, hlc, hcm⟩ := hd.form
  obtain ⟨A2, n2, cp2, rfl, hn2, hlc2, hcm2⟩ := hw.form
  obtain ⟨A3, n3, cp3, rfl, hn3, hlc3, hcm3⟩ := hl.form
  obtain ⟨A4, n4, cp4, rfl, hn4, hlc4, hcm4⟩ := hk.form
  clear hd hw hl hk
  go_enter Tryz.func67, Tryz.ntmps67
  go_wp2_with fail
  generalize hw4 : ((((w.alloc (.cells #[.int .i64 b.id, .int .i64 b.layers, .int .i64 b.dry.lo, .int .i64 b.dry.hi, .slice A n cp, .slice A2 n2 cp2] 27)).alloc (.cells #[.slice A3 n3 cp3] 55)).alloc (.cells #[.slice A4 n4 cp4] 55)).alloc (.cells #[.int .i64 0, .int .i64 0, .int .i64 0, .int .i64 0, .slice none 0 0, .slice none 0 0] 27)) = w4
  have HE4 := Lib.hid (show Ext w w4 from hw4 ▸ (((Ext.al _ _).alloc _).alloc _).alloc _)
  have hz4 : w4.heap.size = w.heap.size + 4 := by rw [← hw4]; simp
  have HZ4 := Lib.hid hz4
  have HB0 := Lib.hid (show Blk w4 w.heap.size 27 #[.int .i64 b.id, .int .i64 b.layers, .int .i64 b.dry.lo, .int .i64 b.dry.hi, .slice A n cp, .slice A2 n2 cp2] from hw4 ▸ (((Blk.new _ _ _).alloc _).alloc _).alloc _)
  have HB1 := Lib.hid (show Blk w4 (w.heap.size + 1) 55 #[.slice A3 n3 cp3] from hw4 ▸ ((Blk.at_ (by simp)).alloc _).alloc _)
  have HB2 := Lib.hid (show Blk w4 (w.heap.size + 1 + 1) 55 #[.slice A4 n4 cp4] from hw4 ▸ (Blk.at_ (by simp)).alloc _)
  have HB3 := Lib.hid (show Blk w4 (w.heap.size + 1 + 1 + 1) 27 #[.int .i64 0, .int .i64 0, .int .i64 0, .int .i64 0, .slice none 0 0, .slice none 0 0] from hw4 ▸ Blk.at_ (by simp))
  clear hw4 hz4
  refine (copied_any b _ _ _ (HD.out.ext HE4.out) (HW.out.ext HE4.out) hld hlw).mono ?_
  rintro e w5 ⟨⟨v, rfl, dv, wv, rfl, o1, o2⟩, hE5⟩
  obtain ⟨Ad, nd, cd, rfl, -, -, -⟩ := (show SlD w5 dv b.draws from o1.sl (fun _ => rfl)).form
  obtain ⟨Aw, nw, cw, rfl, -, -, -⟩ := (show SlW w5 wv b.weighs from o2.sl (fun _ => rfl)).form
  have O1 := Lib.hid o1; have O2 := Lib.hid o2; have HE5 := Lib.hid hE5
  have HC0 := Lib.hid (HB0.out.ext hE5); have HC1 := Lib.hid (HB1.out.ext hE5); have HC2 := Lib.hid (HB2.out.ext hE5); have HC3 := Lib.hid (HB3.out.ext hE5)
  clear o1 o2 hE5 HB0 HB1 HB2 HB3
  have x0 := HC0.out.cell 0
  have x1 := HC0.out.cell 1
  have x2 := HC0.out.cell 2
  have x3 := HC0.out.cell 3
  have x4 := HC0.out.cell 4
  have x5 := HC0.out.cell 5
  have xl := HC0.out.lt
  have xf := HC0.out.frozen
  simp at x0 x1 x2 x3 x4 x5
  dsimp only [valB]
  go_wp2_with fail
  generalize hw6 : ((((((w5.setCell ⟨w.heap.size, 0, none⟩ (.int .i64 b.id)).setCell ⟨w.heap.size, 1, none⟩ (.int .i64 b.layers)).setCell ⟨w.heap.size, 2, none⟩ (.int .i64 b.dry.lo)).setCell ⟨w.heap.size, 3, none⟩ (.int .i64 b.dry.hi)).setCell ⟨w.heap.size, 4, none⟩ (.slice Ad nd cd)).setCell ⟨w.heap.size, 5, none⟩ (.slice Aw nw cw)) = w6
  have HK6 := Lib.hid (show Blk w6 w.heap.size 27 #[.int .i64 b.id, .int .i64 b.layers, .int .i64 b.dry.lo, .int .i64 b.dry.hi, .slice Ad nd cd, .slice Aw nw cw] from hw6 ▸ HC0.out.set6 _ _ _ _ _ _)
  have hG6 : w5.grownBy w6 (some w.heap.size) := hw6 ▸ grown_set (grown_set (grown_set (grown_set (grown_set (grown_set (World.grownBy.refl _ _) (p := ⟨w.heap.size, 0, none⟩) (.inl rfl) _) (p := ⟨w.heap.size, 1, none⟩) (.inl rfl) _) (p := ⟨w.heap.size, 2, none⟩) (.inl rfl) _) (p := ⟨w.heap.size, 3, none⟩) (.inl rfl) _) (p := ⟨w.heap.size, 4, none⟩) (.inl rfl) _) (p := ⟨w.heap.size, 5, none⟩) (.inl rfl) _
  have hz4 := HZ4.out
  have E6 := Lib.hid (show Ext w w6 from ext_grown (HE4.out.trans HE5.out) hG6 (Nat.le_refl _))
  have hs6 : w4.heap.size ≤ w6.heap.size := Nat.le_trans HE5.out.size hG6.size
  have P1 := Lib.hid (show Own encD 37 4 w6 w4.heap.size (.slice Ad nd cd) b.draws from own_kept O1.out hG6 (by omega))
  have P2 := Lib.hid (show Own encW 41 4 w6 w4.heap.size (.slice Aw nw cw) b.weighs from own_kept O2.out hG6 (by omega))
  have HD1 := Lib.hid (HC1.out.grown hG6 (by intro e; injection e with e; omega)); have HD2 := Lib.hid (HC2.out.grown hG6 (by intro e; injection e with e; omega)); have HD3 := Lib.hid (HC3.out.grown hG6 (by intro e; injection e with e; omega))
  have HF := Lib.hid (f88_any 89 #[.pointer (some ⟨w.heap.size + 1, 0, none⟩)] (enters_of Tryz.func89 (by kernel_rfl) rfl) (fun x => l.any fun y => decide (x.number = y)) b.draws _ w4.heap.size w6 hs6 P1.out
    (fun W x hB => f89_any l A3 n3 cp3 (w.heap.size + 1) x W ((HD1.out.below hB (by omega)).cell 0) (HL.out.ext (Below.trans E6.out (Below.mono hB (by omega))))))
  clear hw6 hG6 HC0 HC1 HC2 HC3 O1 O2 x0 x1 x2 x3 x4 x5 xl xf hz4
  refine HF.out.mono ?_
  rintro e w7 ⟨v7, rfl, q1, G7⟩
  have B7 : Below w4.heap.size w6 w7 := own_below P1.out hs6 G7
  have hz4 := HZ4.out
  have hs7 : w4.heap.size ≤ w7.heap.size := Nat.le_trans hs6 B7.size
  obtain ⟨Ae, ne, ce, rfl, -, -, -⟩ := (show SlD w7 v7 _ from q1.sl (fun _ => rfl)).form
  have Q1 := Lib.hid q1
  have Q2 := Lib.hid (own_apart P2.out P1.out (by decide) G7)
  have HK7 := Lib.hid (HK6.out.below B7 (by omega)); have HF1 := Lib.hid (HD1.out.below B7 (by omega)); have HF2 := Lib.hid (HD2.out.below B7 (by omega)); have HF3 := Lib.hid (HD3.out.below B7 (by omega))
  have E7 := Lib.hid (show Ext w w7 from Below.trans E6.out (Below.mono B7 (by omega)))
  have x0 := HK7.out.cell 0
  have x1 := HK7.out.cell 1
  have x2 := HK7.out.cell 2
  have x3 := HK7.out.cell 3
  have x4 := HK7.out.cell 4
  have x5 := HK7.out.cell 5
  have xl := HK7.out.lt
  have xf := HK7.out.frozen
  simp at x0 x1 x2 x3 x4 x5
  clear HF q1 G7 B7 P1 P2 HK6 HD1 HD2 HD3 hs6 hz4
  go_wp2_with fail
  generalize hw8 : w7.setCell ⟨w.heap.size, 4, none⟩ (.slice Ae ne ce) = w8
  have hz4 := HZ4.out
  have hs8 : w8.heap.size = w7.heap.size := by rw [← hw8]; simp [World.setCell]
  have HK8 := Lib.hid (show Blk w8 w.heap.size 27 #[.int .i64 b.id, .int .i64 b.layers, .int .i64 b.dry.lo, .int .i64 b.dry.hi, .slice Ae ne ce, .slice Aw nw cw] from hw8 ▸ (by have := HK7.out.set_ 4 (.slice Ae ne ce); simpa using this))
  have HG1 := Lib.hid (show Blk w8 (w.heap.size + 1) 55 #[.slice A3 n3 cp3] from hw8 ▸ HF1.out.far (by dsimp only; omega) _)
  have HG2 := Lib.hid (show Blk w8 (w.heap.size + 1 + 1) 55 #[.slice A4 n4 cp4] from hw8 ▸ HF2.out.far (by dsimp only; omega) _)
  have HG3 := Lib.hid (show Blk w8 (w.heap.size + 1 + 1 + 1) 27 _ from hw8 ▸ HF3.out.far (by dsimp only; omega) _)
  have E8 := Lib.hid (show Ext w w8 from hw8 ▸ E7.out.setCell (Nat.le_refl _) _)
  have R1 := Lib.hid (show Own encD 37 4 w8 w4.heap.size (.slice Ae ne ce) _ from hw8 ▸ own_set Q1.out (by omega))
  have R2 := Lib.hid (show Own encW 41 4 w8 w4.heap.size (.slice Aw nw cw) b.weighs from hw8 ▸ own_set Q2.out (by omega))
  have HF := Lib.hid (f91_any 92 #[.pointer (some ⟨w.heap.size + 1 + 1, 0, none⟩)] (enters_of Tryz.func92 (by kernel_rfl) rfl) (fun x => k.any fun y => decide (x.number = y)) b.weighs _ w4.heap.size w8 (by omega) R2.out
    (fun W x hB => f92_any k A4 n4 cp4 (w.heap.size + 1 + 1) x W ((HG2.out.below hB (by omega)).cell 0) (HK.out.ext (Below.trans E8.out (Below.mono hB (by omega))))))
  clear hw8 HF1 HF2 HF3 HK7 Q1 Q2 E7 x0 x1 x2 x3 x4 x5 xl xf hz4
  refine HF.out.mono ?_
  rintro e w9 ⟨v9, rfl, q2, G9⟩
  have B9 : Below w4.heap.size w8 w9 := own_below R2.out (by omega) G9
  have hz4 := HZ4.out
  obtain ⟨Af, nf, cf, rfl, -, -, -⟩ := (show SlW w9 v9 _ from q2.sl (fun _ => rfl)).form
  have Q2 := Lib.hid q2
  have Q1 := Lib.hid (own_apart R1.out R2.out (by decide) G9)
  have HK9 := Lib.hid (HK8.out.below B9 (by omega)); have HF3 := Lib.hid (HG3.out.below B9 (by omega))
  have E9 := Lib.hid (show Ext w w9 from Below.trans E8.out (Below.mono B9 (by omega)))
  have x0 := HK9.out.cell 0
  have x1 := HK9.out.cell 1
  have x2 := HK9.out.cell 2
  have x3 := HK9.out.cell 3
  have x4 := HK9.out.cell 4
  have x5 := HK9.out.cell 5
  have xl := HK9.out.lt
  have xf := HK9.out.frozen
  have t0 := HF3.out.cell 0
  have t1 := HF3.out.cell 1
  have t2 := HF3.out.cell 2
  have t3 := HF3.out.cell 3
  have t4 := HF3.out.cell 4
  have t5 := HF3.out.cell 5
  have tl := HF3.out.lt
  have tf := HF3.out.frozen
  simp at x0 x1 x2 x3 x4 x5 t0 t1 t2 t3 t4 t5
  clear HF q2 G9 B9 R1 R2 HK8 HG1 HG2 HG3 hz4
  go_wp2_with fail
  have hz4 := HZ4.out
  have HB9 : Blk (w9.setCell ⟨w.heap.size, 5, none⟩ (.slice Af nf cf)) (w.heap.size + 1 + 1 + 1) 27 #[.int .i64 0, .int .i64 0, .int .i64 0, .int .i64 0, .slice none 0 0, .slice none 0 0] := HF3.out.far (by dsimp only; omega) _
  refine ret_set6 HB9 fun W' ⟨b0, b1, b2, b3, b4, b5⟩ hW => ?_
  refine bodyPost_ret (v := valB b (.slice Ae ne ce) (.slice Af nf cf)) (by simp [results, Tryz.results67, go_sem, b0, b1, b2, b3, b4, b5]) rfl ?_
  refine ⟨⟨_, rfl, ⟨.slice Ae ne ce, .slice Af nf cf, rfl, ?_, ?_⟩⟩, ext_grown (E9.out.setCell (Nat.le_refl _) _) hW (by omega)⟩
  · exact own_mono (own_kept (own_set Q1.out (by omega)) hW (by omega)) (by omega)
  · exact own_mono (own_kept (own_set Q2.out (by omega)) hW (by omega)) (by omega)
end Go.Proofs.YtfhmfbhpehldpaaGreatDoor
/- core.Wrong: the draws and weighings that must be false. -/
namespace Go.Proofs.YtfhmfbhpehldpaaGreatDoor
open Go.RowKit Go.Shelf Go.Lib
set_option maxRecDepth 100000
set_option linter.unusedSimpArgs false

/-- A bale lies whole in block g. -/
structure BaleAt (b : Bale) (g : Nat) (dv wv : Value) (W : World) : Prop where
  k : Blk W g 27 #[.int .i64 b.id, .int .i64 b.layers, .int .i64 b.dry.lo, .int .i64 b.dry.hi, dv, wv]
  d : SlD W dv b.draws
  w : SlW W wv b.weighs
theorem BaleAt.ext {b : Bale} {g : Nat} {dv wv : Value} {W W' : World} (h : BaleAt b g dv wv W) (e : Ext W W') : BaleAt b g dv wv W' := ⟨h.k.ext e, h.d.ext e, h.w.ext e⟩
theorem withB_bds {b : Bale} (h : Bds b) (l k : List Int) : ∀ x ∈ (withB b l k).weighs, 0 ≤ x.damp.lo ∧ x.damp.lo ≤ 1000000 ∧ 0 ≤ x.damp.hi ∧ x.damp.hi ≤ 1000000 := fun x hx => by
  have := h.w x (List.mem_filter.1 hx).1
  omega

set_option maxHeartbeats 1000000 in
theorem f66_any (b : Bale) (l : List Int) (v dv wv : Value) (g : Nat) (w : World) (hv : valid b = true) (hB : BaleAt b g dv wv w) (hl : SlI w v l) :
    Calls Tryz.prog 66 #[v, .pointer (some ⟨g, 0, none⟩)] w fun e w' => e = .returned (.bool (grown (spans (withB b l [])))) ∧ Ext w w' := by
  have HB := Lib.hid hB
  have hb := valid_bds hv
  have HL := Lib.hid hl
  obtain ⟨A, n, cp, rfl, hn, hlc, hcm⟩ := hB.d.form
  obtain ⟨A2, n2, cp2, rfl, hn2, hlc2, hcm2⟩ := hB.w.form
  obtain ⟨A3, n3, cp3, rfl, hn3, hlc3, hcm3⟩ := hl.form
  have x0 := hB.k.cell 0
  have x1 := hB.k.cell 1
  have x2 := hB.k.cell 2
  have x3 := hB.k.cell 3
  have x4 := hB.k.cell 4
  have x5 := hB.k.cell 5
  simp at x0 x1 x2 x3 x4 x5
  have HBD := Lib.hid hb
  clear hB hl hb
  go_enter Tryz.func66, Tryz.ntmps66
  go_wp2_with fail
  refine (without_any b l [] _ _ _ _ w HB.out.d HB.out.w HL.out (Sl.nil _) (by have := HBD.out.nd; omega) (by have := HBD.out.nw; omega)).mono ?_
  rintro e w1 ⟨⟨v1, rfl, dv1, wv1, rfl, o1, o2⟩, hE1⟩
  obtain ⟨Ad, nd, cd, rfl, -, -, -⟩ := (show SlD w1 dv1 _ from o1.sl (fun _ => rfl)).form
  obtain ⟨Aw, nw, cw, rfl, -, -, -⟩ := (show SlW w1 wv1 _ from o2.sl (fun _ => rfl)).form
  have HD1 := Lib.hid (show SlD w1 (.slice Ad nd cd) (withB b l []).draws from o1.sl (fun _ => rfl))
  have HW1 := Lib.hid (show SlW w1 (.slice Aw nw cw) (withB b l []).weighs from o2.sl (fun _ => rfl))
  have HE1 := Lib.hid hE1
  clear o1 o2 hE1 x0 x1 x2 x3 x4 x5
  dsimp only [valB]
  go_wp2_with fail
  refine (opened_any (withB b l []) _ _ w1 HD1.out HW1.out HBD.out.l1 HBD.out.l5 HBD.out.lo HBD.out.lh HBD.out.hi (withB_bds HBD.out l [])).mono ?_
  rintro e w2 ⟨sv, lv, rfl, s1, s2, hE2⟩
  have hs1 : SlS w2 sv (spans (withB b l [])) := s1.sl (fun _ => rfl)
  have hs2 : SlI w2 lv (dries (withB b l [])) := s2.sl (fun _ => rfl)
  obtain ⟨As, ns, cs, rfl, -, -, -⟩ := hs1.form
  obtain ⟨Al, nl, cl, rfl, -, -, -⟩ := hs2.form
  have HS := Lib.hid hs1; have HL2 := Lib.hid hs2
  have HD2 := Lib.hid (HD1.out.ext hE2); have HW2 := Lib.hid (HW1.out.ext hE2); have HE2 := Lib.hid (HE1.out.trans hE2)
  clear s1 s2 hs1 hs2 hE2
  dsimp only [valP, withB]
  go_wp2_with fail
  refine (grown_any (withB b l []) _ _ _ _ (spans (withB b l [])) (dries (withB b l [])) _ (HD2.out.ext (Ext.al _ _)) (HW2.out.ext (Ext.al _ _)) (HS.out.ext (Ext.al _ _)) (HL2.out.ext (Ext.al _ _))).mono ?_
  rintro e w3 ⟨rfl, hE3⟩
  have HE3 := Lib.hid ((HE2.out.alloc _).trans hE3)
  clear hE3
  go_wp2
  go_ret
  exact ⟨rfl, HE3.out⟩

set_option maxHeartbeats 1000000 in
theorem f69_any (b : Bale) (l : List Int) (v dv wv : Value) (g : Nat) (w : World) (hv : valid b = true) (hB : BaleAt b g dv wv w) (hl : SlI w v l) :
    Calls Tryz.prog 69 #[v, .pointer (some ⟨g, 0, none⟩)] w fun e w' => e = .returned (.bool (decide (0 < (dries (withB b [] l)).length))) ∧ Ext w w' := by
  have HB := Lib.hid hB
  have hb := valid_bds hv
  have HL := Lib.hid hl
  obtain ⟨A, n, cp, rfl, hn, hlc, hcm⟩ := hB.d.form
  obtain ⟨A2, n2, cp2, rfl, hn2, hlc2, hcm2⟩ := hB.w.form
  obtain ⟨A3, n3, cp3, rfl, hn3, hlc3, hcm3⟩ := hl.form
  have x0 := hB.k.cell 0
  have x1 := hB.k.cell 1
  have x2 := hB.k.cell 2
  have x3 := hB.k.cell 3
  have x4 := hB.k.cell 4
  have x5 := hB.k.cell 5
  simp at x0 x1 x2 x3 x4 x5
  have HBD := Lib.hid hb
  clear hB hl hb
  go_enter Tryz.func69, Tryz.ntmps69
  go_wp2_with fail
  refine (without_any b [] l _ _ _ _ w HB.out.d HB.out.w (Sl.nil _) HL.out (by have := HBD.out.nd; omega) (by have := HBD.out.nw; omega)).mono ?_
  rintro e w1 ⟨⟨v1, rfl, dv1, wv1, rfl, o1, o2⟩, hE1⟩
  obtain ⟨Ad, nd, cd, rfl, -, -, -⟩ := (show SlD w1 dv1 _ from o1.sl (fun _ => rfl)).form
  obtain ⟨Aw, nw, cw, rfl, -, -, -⟩ := (show SlW w1 wv1 _ from o2.sl (fun _ => rfl)).form
  have HD1 := Lib.hid (show SlD w1 (.slice Ad nd cd) (withB b [] l).draws from o1.sl (fun _ => rfl))
  have HW1 := Lib.hid (show SlW w1 (.slice Aw nw cw) (withB b [] l).weighs from o2.sl (fun _ => rfl))
  have HE1 := Lib.hid hE1
  clear o1 o2 hE1 x0 x1 x2 x3 x4 x5
  dsimp only [valB]
  go_wp2_with fail
  refine (opened_any (withB b [] l) _ _ w1 HD1.out HW1.out HBD.out.l1 HBD.out.l5 HBD.out.lo HBD.out.lh HBD.out.hi (withB_bds HBD.out [] l)).mono ?_
  rintro e w2 ⟨sv, lv, rfl, s1, s2, hE2⟩
  have hs1 : SlS w2 sv (spans (withB b [] l)) := s1.sl (fun _ => rfl)
  have hs2 : SlI w2 lv (dries (withB b [] l)) := s2.sl (fun _ => rfl)
  obtain ⟨As, ns, cs, rfl, -, -, -⟩ := hs1.form
  obtain ⟨Al, nl, cl, rfl, hnl, -, -⟩ := hs2.form
  have HE2 := Lib.hid (HE1.out.trans hE2)
  clear s1 s2 hs1 hs2 hE2
  dsimp only [valP, withB]
  go_wp2
  go_ret
  exact ⟨by rw [← hnl.out]; rfl, HE2.out.alloc _⟩

/-- What must be false, draws and weighings. -/
def wrongD (b : Bale) : Option (List Int) := (listsL (b.draws.map (·.number)) 3).find? fun l => grown (spans (withB b l []))
def wrongW (b : Bale) : Option (List Int) := (listsL (b.weighs.map (·.number)) 3).find? fun l => decide (0 < (dries (withB b [] l)).length)
def wrongE (b : Bale) : Int := if valid b then (if (wrongD b).isSome && (wrongW b).isSome then 0 else 4) else 30
def wrongL (b : Bale) : List Int := if wrongE b = 0 then (wrongD b).getD [] else []
def wrongK (b : Bale) : List Int := if wrongE b = 0 then (wrongW b).getD [] else []

/-- A slice of numbers, as the enumerator reads it. -/
theorem sl_at {W : World} {A : Option Addr} {n c : Nat} {l : List Int} (h : SlI W (.slice A n c) l) : ∀ i x, l[i]? = some x → ∃ bb off, A = some ⟨bb, off, none⟩ ∧ W.cell? ⟨bb, off + i, none⟩ = some (.int .i64 x) := by
  intro i x hx
  have hi : i < n := by
    have h1 := (List.getElem?_eq_some_iff.1 hx).1
    obtain ⟨_, _, e, _⟩ := h
    injection e with _ e _
    omega
  obtain ⟨bb, off, y, e1, hy, hbb, hc⟩ := h.at_ hi
  rw [hx] at hy
  injection hy with hy
  subst hy
  exact ⟨bb, off, e1, SlI.cell hc (Ext.refl _)⟩

set_option maxHeartbeats 2000000 in
theorem wrong_any (b : Bale) (dv wv : Value) (w : World) (hT : Tab w) (hd : SlD w dv b.draws) (hw : SlW w wv b.weighs) :
    Calls Tryz.prog 29 #[valB b dv wv] w fun e w' => ∃ v1 v2, e = .returned (.tuple #[v1, v2, .int .i64 (wrongE b)]) ∧ SlI w' v1 (wrongL b) ∧ SlI w' v2 (wrongK b) ∧ Ext w w' := by
  have HT := Lib.hid hT
  have HD := Lib.hid hd
  have HW := Lib.hid hw
  obtain ⟨A, n, cp, rfl, hn, hlc, hcm⟩ := hd.form
  obtain ⟨A2, n2, cp2, rfl, hn2, hlc2, hcm2⟩ := hw.form
  clear hd hw hT
  go_enter Tryz.func29, Tryz.ntmps29
  go_wp2_with fail
  refine (check_any b _ _ _ (HT.out.ext (Ext.al _ _)) (HD.out.ext (Ext.al _ _)) (HW.out.ext (Ext.al _ _))).mono ?_
  rintro e w1 ⟨rfl, hE⟩
  have HE1 := Lib.hid ((Ext.al w _).trans hE)
  have HB1 := Lib.hid (show BaleAt b w.heap.size (.slice A n cp) (.slice A2 n2 cp2) w1 from ⟨(Blk.new _ _ _).ext hE, HD.out.ext ((Ext.al _ _).trans hE), HW.out.ext ((Ext.al _ _).trans hE)⟩)
  clear hE
  cases hv : valid b with
  | false =>
    have HV := Lib.hid (show wrongE b = 30 by unfold wrongE; rw [hv]; rfl)
    have HV1 := Lib.hid (show wrongL b = [] by unfold wrongL; rw [HV.out]; rfl)
    have HV2 := Lib.hid (show wrongK b = [] by unfold wrongK; rw [HV.out]; rfl)
    clear hv
    show _
    dsimp only [errB]
    go_wp2
    refine bodyPost_ret (v := .tuple #[.slice none 0 0, .slice none 0 0, .int .i64 30]) (by simp [results, Tryz.results29, go_sem]) rfl ?_
    exact ⟨_, _, by rw [HV.out], by rw [HV1.out]; exact Sl.nil _, by rw [HV2.out]; exact Sl.nil _, HE1.out⟩
  | true =>
    have HV := Lib.hid hv
    have HBD := Lib.hid (valid_bds hv)
    have HVE := Lib.hid (show wrongE b = if (wrongD b).isSome && (wrongW b).isSome then 0 else 4 by unfold wrongE; rw [hv]; rfl)
    clear hv
    have x0 := HB1.out.k.cell 0
    have x1 := HB1.out.k.cell 1
    have x2 := HB1.out.k.cell 2
    have x3 := HB1.out.k.cell 3
    have x4 := HB1.out.k.cell 4
    have x5 := HB1.out.k.cell 5
    have xl := HB1.out.k.lt
    simp at x0 x1 x2 x3 x4 x5
    dsimp only [errB]
    go_wp2_with fail
    refine (f65_any b _ _ w1 HB1.out.d HB1.out.w (by have := HBD.out.nd; omega)).mono ?_
    rintro e w2 ⟨v2, rfl, hs2, hE2⟩
    obtain ⟨A3, n3, c3, rfl, hn3, -, -⟩ := hs2.form
    have HS2 := Lib.hid hs2; have HE2 := Lib.hid hE2
    clear hs2 hE2
    go_wp2_with fail
    refine (lists_any A3 n3 c3 3 w2).mono ?_
    rintro e w3 ⟨rfl, hw3⟩
    have E3 : Ext w2 w3 := by rw [hw3]; exact (Ext.al _ _).alloc _
    have hb0 : Blk w3 w2.heap.size 55 #[.slice A3 n3 c3] := by rw [hw3]; exact (Blk.new _ _ _).alloc _
    have hb1 : Blk w3 (w2.heap.size + 1) 3 #[.int .i64 3] := by rw [hw3]; exact Blk.at_ (by simp)
    have hn3' : n3 = (b.draws.map (·.number)).length := hn3.out
    have HB3 := Lib.hid (HB1.out.ext (HE2.out.trans E3))
    have HFI := Lib.hid (first_any (gf := 85) (tf := 66) (lb := #[.pointer (some ⟨w2.heap.size, 0, none⟩), .pointer (some ⟨w2.heap.size + 1, 0, none⟩)]) (fi := #[]) (tlb := #[.pointer (some ⟨w.heap.size, 0, none⟩)]) (w := w3)
      (p := fun l => grown (spans (withB b l []))) (enters_of Tryz.func85 (by kernel_rfl) rfl) (enters_of Tryz.func66 (by kernel_rfl) rfl)
      (lists_seqs (ba := w2.heap.size) (bm := w2.heap.size + 1) (ca := c3) (n₀ := w3.heap.size) (X := fun _ => False) (A := A3) (all := b.draws.map (·.number)) (most := 3) (w := w3) (by rw [List.length_map]; have := HBD.out.nd; omega) (fun _ h => h.elim) id (fun _ _ _ => id) (Nat.le_refl _)
        (by rw [← hn3']; exact hb0.cell 0) (sl_at (HS2.out.ext E3)) (hb1.cell 0))
      (fun x hx v W hB hv => f66_any b x v _ _ _ W HV.out (HB3.out.ext hB) hv))
    have HE3 := Lib.hid (HE1.out.trans (HE2.out.trans E3))
    clear hw3 E3 hb0 hb1 hn3' HS2 x0 x1 x2 x3 x4 x5 xl
    go_wp2_with fail
    refine HFI.out.mono ?_
    rintro e w4 ⟨va, rfl, hva, hE4⟩
    have HVA := Lib.hid hva
    have HE4 := Lib.hid (HE3.out.trans hE4)
    have HB4 := Lib.hid (HB3.out.ext hE4)
    clear hva hE4 HFI
    rw [show (List.find? (fun l => grown (spans (withB b l []))) (listsL (List.map (fun x => x.number) b.draws) 3)) = wrongD b from rfl]
    have x0 := HB4.out.k.cell 0
    have x1 := HB4.out.k.cell 1
    have x2 := HB4.out.k.cell 2
    have x3 := HB4.out.k.cell 3
    have x4 := HB4.out.k.cell 4
    have x5 := HB4.out.k.cell 5
    have xl := HB4.out.k.lt
    simp at x0 x1 x2 x3 x4 x5
    go_wp2_with fail
    refine (f47_any b _ _ w4 HB4.out.d HB4.out.w (by have := HBD.out.nw; omega)).mono ?_
    rintro e w5 ⟨v5, rfl, hs5, hE5⟩
    obtain ⟨A5, n5, c5, rfl, hn5, -, -⟩ := hs5.form
    have HS5 := Lib.hid hs5; have HE5 := Lib.hid hE5
    clear hs5 hE5
    go_wp2_with fail
    refine (lists_any A5 n5 c5 3 w5).mono ?_
    rintro e w6 ⟨rfl, hw6⟩
    have E6 : Ext w5 w6 := by rw [hw6]; exact (Ext.al _ _).alloc _
    have hb0 : Blk w6 w5.heap.size 55 #[.slice A5 n5 c5] := by rw [hw6]; exact (Blk.new _ _ _).alloc _
    have hb1 : Blk w6 (w5.heap.size + 1) 3 #[.int .i64 3] := by rw [hw6]; exact Blk.at_ (by simp)
    have hn5' : n5 = (b.weighs.map (·.number)).length := hn5.out
    have HB6 := Lib.hid (HB4.out.ext (HE5.out.trans E6))
    have HFI := Lib.hid (first_any (gf := 85) (tf := 69) (lb := #[.pointer (some ⟨w5.heap.size, 0, none⟩), .pointer (some ⟨w5.heap.size + 1, 0, none⟩)]) (fi := #[]) (tlb := #[.pointer (some ⟨w.heap.size, 0, none⟩)]) (w := w6)
      (p := fun l => decide (0 < (dries (withB b [] l)).length)) (enters_of Tryz.func85 (by kernel_rfl) rfl) (enters_of Tryz.func69 (by kernel_rfl) rfl)
      (lists_seqs (ba := w5.heap.size) (bm := w5.heap.size + 1) (ca := c5) (n₀ := w6.heap.size) (X := fun _ => False) (A := A5) (all := b.weighs.map (·.number)) (most := 3) (w := w6) (by rw [List.length_map]; have := HBD.out.nw; omega) (fun _ h => h.elim) id (fun _ _ _ => id) (Nat.le_refl _)
        (by rw [← hn5']; exact hb0.cell 0) (sl_at (HS5.out.ext E6)) (hb1.cell 0))
      (fun x hx v W hB hv => f69_any b x v _ _ _ W HV.out (HB6.out.ext hB) hv))
    have HE6 := Lib.hid (HE4.out.trans (HE5.out.trans E6))
    have HVA6 := Lib.hid (HVA.out.ext (HE5.out.trans E6))
    clear hw6 E6 hb0 hb1 hn5' HS5 x0 x1 x2 x3 x4 x5 xl
    go_wp2_with fail
    refine HFI.out.mono ?_
    rintro e w7 ⟨vb, rfl, hvb, hE7⟩
    have HVB := Lib.hid hvb
    have HE7 := Lib.hid (HE6.out.trans hE7)
    have HVA7 := Lib.hid (HVA6.out.ext hE7)
    clear hvb hE7 HFI
    rw [show (List.find? (fun l => decide (0 < (dries (withB b [] l)).length)) (listsL (List.map (fun x => x.number) b.weighs) 3)) = wrongW b from rfl]
    have HVA8 := Lib.hid (show SlI w7 va ((wrongD b).getD []) from HVA7.out)
    have HVB8 := Lib.hid (show SlI w7 vb ((wrongW b).getD []) from HVB.out)
    have HVL := Lib.hid (show wrongL b = if wrongE b = 0 then (wrongD b).getD [] else [] from rfl)
    have HVK := Lib.hid (show wrongK b = if wrongE b = 0 then (wrongW b).getD [] else [] from rfl)
    clear HVA HVA6 HVA7 HVB
    generalize wrongD b = od at *
    generalize wrongW b = ow at *
    cases od with
    | none =>
      have HE := Lib.hid (show wrongE b = 4 by rw [HVE.out]; rfl)
      go_wp2
      refine bodyPost_ret (v := .tuple #[.slice none 0 0, .slice none 0 0, .int .i64 4]) (by simp [results, Tryz.results29, go_sem]) rfl ?_
      exact ⟨_, _, by rw [HE.out], by rw [HVL.out, HE.out]; exact Sl.nil _, by rw [HVK.out, HE.out]; exact Sl.nil _, HE7.out⟩
    | some ld =>
      cases ow with
      | none =>
        have HE := Lib.hid (show wrongE b = 4 by rw [HVE.out]; rfl)
        go_wp2
        refine bodyPost_ret (v := .tuple #[.slice none 0 0, .slice none 0 0, .int .i64 4]) (by simp [results, Tryz.results29, go_sem]) rfl ?_
        exact ⟨_, _, by rw [HE.out], by rw [HVL.out, HE.out]; exact Sl.nil _, by rw [HVK.out, HE.out]; exact Sl.nil _, HE7.out⟩
      | some lw =>
        have HE := Lib.hid (show wrongE b = 0 by rw [HVE.out]; rfl)
        go_wp2
        refine bodyPost_ret (v := .tuple #[va, vb, .int .i64 0]) (by simp [results, Tryz.results29, go_sem]) rfl ?_
        exact ⟨_, _, by rw [HE.out], by rw [HVL.out, HE.out]; exact HVA8.out, by rw [HVK.out, HE.out]; exact HVB8.out, HE7.out⟩
end Go.Proofs.YtfhmfbhpehldpaaGreatDoor
/- The reference's has and without. -/
namespace Go.Proofs.YtfhmfbhpehldpaaGreatDoor
open Go.RowKit Go.Shelf Go.Lib
set_option maxRecDepth 100000
set_option linter.unusedSimpArgs false

theorem filter_snoc {α : Type} (f : α → Bool) {l : List α} {k : Nat} {x : α} (h : l[k]? = some x) : (l.take (k + 1)).filter f = (l.take k).filter f ++ (if f x then [x] else []) := by
  rw [List.take_add_one, h, List.filter_append]
  simp only [Option.toList_some, List.filter_cons, List.filter_nil]
theorem encD_1 (x : Draw) : ∀ u ∈ encD x, u.oneCell' = true := by intro u hu; simp at hu; rcases hu with rfl | rfl | rfl | rfl <;> rfl
theorem encW_1 (x : Weigh) : ∀ u ∈ encW x, u.oneCell' = true := by intro u hu; simp at hu; rcases hu with rfl | rfl | rfl | rfl <;> rfl

end Go.Proofs.YtfhmfbhpehldpaaGreatDoor
