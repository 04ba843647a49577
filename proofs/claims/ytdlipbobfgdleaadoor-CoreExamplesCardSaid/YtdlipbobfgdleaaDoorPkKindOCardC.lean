/- slices.SortStableFunc at draws and weighings, of at most twenty: insertion sort by their numbers. -/
import Derived.Test.YtdlipbobfgdleaaDoorPkKindOCardB
import Derived.Test.YtdlipbobfgdleaaDoorPkTruthCardR
import Derived.Test.YtdlipbobfgdleaaDoorPkKindOCardA
namespace Go.Proofs.YtdlipbobfgdleaaDoor
open Go.RowKit Go.Shelf Go.Lib
set_option maxRecDepth 100000
set_option linter.unusedSimpArgs false

def cmpI (a b : Int) : Int := if a < b then -1 else if b < a then 1 else 0
theorem nan_any (x : Int) (w : World) : Calls Tryd.prog 146 #[.int .i64 x] w fun e w' => e = .returned (.bool false) ∧ Ext w w' := by
  go_enter Tryd.func146, Tryd.ntmps146
  go_wp2
  go_ret
  exact ⟨by simp, Ext.refl _⟩
theorem compare_any (a b : Int) (w : World) : Calls Tryd.prog 115 #[.int .i64 a, .int .i64 b] w fun e w' => e = .returned (.int .i64 (cmpI a b)) ∧ Ext w w' := by
  go_enter Tryd.func115, Tryd.ntmps115
  go_wp2_with fail
  refine (nan_any a w).mono ?_
  rintro e w1 ⟨rfl, hE1⟩
  have HE1 := Lib.hid hE1; clear hE1
  go_wp2_with fail
  refine (nan_any b w1).mono ?_
  rintro e w2 ⟨rfl, hE2⟩
  have HE2 := Lib.hid (HE1.out.trans hE2); clear hE2
  by_cases h1 : a < b
  · have HC := Lib.hid (show cmpI a b = -1 by unfold cmpI; rw [if_pos h1])
    go_wp2
    go_ret
    exact ⟨by rw [HC.out]; rfl, HE2.out⟩
  · by_cases h2 : b < a
    · have HC := Lib.hid (show cmpI a b = 1 by unfold cmpI; rw [if_neg h1, if_pos h2])
      go_wp2
      go_ret
      exact ⟨by rw [HC.out]; rfl, HE2.out⟩
    · have HC := Lib.hid (show cmpI a b = 0 by unfold cmpI; rw [if_neg h1, if_neg h2])
      go_wp2
      go_ret
      exact ⟨by rw [HC.out]; rfl, HE2.out⟩
theorem wrap_nat {k : Nat} (h : k ≤ 100000) : IntKind.i64.wrap (k : Int) = (k : Int) := by
  rw [IntKind.wrap_i64]
  omega
theorem own_at63 {W : World} {base g n c k : Nat} {m : List Draw} {y : Draw} (h : Own encD 63 4 W base (.slice (some ⟨g, 0, none⟩) n c) m) (hy : m[k]? = some y) :
    W.cell? ⟨g, k * 4, none⟩ = some (.int .i64 y.number) ∧ W.cell? ⟨g, k * 4 + 1, none⟩ = some (.int .i64 y.layer) ∧ W.cell? ⟨g, k * 4 + 2, none⟩ = some (.int .i64 y.grade.lo) ∧ W.cell? ⟨g, k * 4 + 3, none⟩ = some (.int .i64 y.grade.hi) ∧ g < W.heap.size := by
  have hsl : SlD W (.slice (some ⟨g, 0, none⟩) n c) m := h.sl (fun _ => rfl)
  have hk : k < n := by
    have h1 := (List.getElem?_eq_some_iff.1 hy).1
    obtain ⟨_, _, e, _⟩ := hsl
    injection e with _ e _
    omega
  obtain ⟨bb, off, y', e1, hy', hb, hc⟩ := hsl.at_ hk
  injection e1 with e1
  injection e1 with e1 e2 _
  subst e1 e2
  rw [hy] at hy'
  injection hy' with hy'
  subst hy'
  obtain ⟨c0, c1, c2, c3⟩ := SlD.cells hc (Ext.refl _)
  simp only [Nat.zero_add] at c0 c1 c2 c3
  exact ⟨c0, c1, c2, c3, hb⟩
theorem f114_any (x y : Draw) (w : World) : Calls Tryd.prog 114 #[valD x, valD y] w fun e w' => e = .returned (.int .i64 (cmpI x.number y.number)) ∧ Ext w w' := by
  dsimp only [valD]
  go_enter Tryd.func114, Tryd.ntmps114
  go_wp2_with fail
  refine (compare_any x.number y.number _).mono ?_
  rintro e w1 ⟨rfl, hE1⟩
  have HE1 := Lib.hid ((((Ext.al _ _).alloc _ : Ext w _)).trans hE1); clear hE1
  go_wp2
  go_ret
  exact ⟨rfl, HE1.out⟩

/-- Where a draw comes to stand. -/
def stopD (S : List Draw) (x : Draw) : Nat → Nat
  | 0 => 0
  | j + 1 => match S[j]? with
    | some y => if x.number < y.number then stopD S x j else j + 1
    | none => j + 1
def putD (S : List Draw) (x : Draw) (j : Nat) : List Draw := S.take j ++ x :: S.drop j
def sortD (l : List Draw) : Nat → List Draw
  | 0 => []
  | k + 1 => match l[k]? with
    | some x => putD (sortD l k) x (stopD (sortD l k) x k)
    | none => sortD l k
theorem stopD_le (S : List Draw) (x : Draw) : ∀ j, stopD S x j ≤ j
  | 0 => Nat.le_refl _
  | j + 1 => by
    unfold stopD
    split
    · split
      · exact Nat.le_succ_of_le (stopD_le S x j)
      · exact Nat.le_refl _
    · exact Nat.le_refl _
theorem putD_len (S : List Draw) (x : Draw) {j : Nat} (hj : j ≤ S.length) : (putD S x j).length = S.length + 1 := by unfold putD; simp; omega
theorem sortD_len (l : List Draw) : ∀ k, k ≤ l.length → (sortD l k).length = k
  | 0, _ => rfl
  | k + 1, h => by
    have ih := sortD_len l k (by omega)
    unfold sortD
    rw [List.getElem?_eq_getElem (show k < l.length by omega)]
    simp only
    rw [putD_len _ _ (by rw [ih]; exact stopD_le _ _ _), ih]
theorem putD_at (S T : List Draw) (x : Draw) {j : Nat} (hj : j ≤ S.length) : (putD S x j ++ T)[j]? = some x := by
  unfold putD
  rw [List.append_assoc, List.getElem?_append_right (by simp; omega)]
  simp [List.length_take, Nat.min_eq_left hj]
theorem putD_before (S T : List Draw) (x : Draw) {j : Nat} (hj : j < S.length) : (putD S x (j + 1) ++ T)[j]? = S[j]? := by
  unfold putD
  rw [List.append_assoc, List.getElem?_append_left (by simp; omega), List.getElem?_take, if_pos (by omega)]
theorem putD_swap (S T : List Draw) (x y : Draw) {j : Nat} (hy : S[j]? = some y) : ((putD S x (j + 1) ++ T).set (j + 1) y).set j x = putD S x j ++ T := by
  have hj : j < S.length := (List.getElem?_eq_some_iff.1 hy).1
  have h1 : S.take (j + 1) = S.take j ++ [y] := by rw [List.take_add_one, hy]; rfl
  have h2 : S.drop j = y :: S.drop (j + 1) := drop_at hy
  unfold putD
  rw [h1, h2]
  have hl : (S.take j).length = j := by simp; omega
  rw [show List.take j S ++ [y] ++ x :: List.drop (j + 1) S ++ T = List.take j S ++ (y :: x :: (List.drop (j + 1) S ++ T)) by simp]
  rw [List.set_append_right (j + 1) y (by omega), List.set_append_right j x (by omega), hl]
  rw [show j + 1 - j = 1 by omega, Nat.sub_self]
  simp
theorem putD_end (S T : List Draw) (x : Draw) : putD S x S.length ++ T = S ++ (x :: T) := by unfold putD; simp

set_option maxHeartbeats 2000000 in
theorem f155_any (l : List Draw) (g n c base : Nat) (w : World) (hn : n = l.length) (hn0 : 0 < n) (hn20 : n ≤ 20) (ho : Own encD 63 4 w base (.slice (some ⟨g, 0, none⟩) n c) l) :
    Calls Tryd.prog 155 #[.slice (some ⟨g, 0, none⟩) n c, .int .i64 0, .int .i64 (n : Int), .func (.func 114) #[] #[]] w fun e w' => (∃ v, e = .returned v) ∧ Own encD 63 4 w' base (.slice (some ⟨g, 0, none⟩) n c) (sortD l n) ∧ w.grownBy w' (some g) := by
  have HO := Lib.hid ho
  have HN := Lib.hid hn
  have eg : ∀ args w, (callFunc 114 args).run Tryd.prog w = .ok (.enter 114 args) w := enters_of Tryd.func114 (by kernel_rfl) rfl
  clear ho hn
  go_enter Tryd.func155, Tryd.ntmps155
  go_wp2
  go_loopg [8, 9] n (fun gg s8 _ wr => ∃ i : Nat, 1 ≤ i ∧ i ≤ n ∧ n - i ≤ gg ∧ s8 = .int .i64 (i : Int) ∧ Aside (Own encD 63 4 wr base (.slice (some ⟨g, 0, none⟩) n c) (sortD l i ++ l.drop i)) ∧ Aside (w.grownBy wr (some g)))
  case atStart => exact ⟨1, by omega, by omega, by omega, rfl, by
    have h0 : 0 < l.length := by have := HN.out; omega
    have : sortD l 1 ++ l.drop 1 = l := by
      match l, h0 with
      | x :: r, _ => simp [sortD, stopD, putD]
    rw [this]; exact HO.out, World.grownBy.refl _ _⟩
  case round =>
    obtain ⟨i, hi1, hin, hgg, rfl, OW, GW⟩ := hrel
    by_cases hiN : i < n
    · have hiz : (i : Int) < (n : Int) := by omega
      obtain ⟨x, hx⟩ : ∃ x, l[i]? = some x := ⟨_, List.getElem?_eq_getElem (by have := HN.out; omega)⟩
      have HX := Lib.hid hx
      have HSL := Lib.hid (sortD_len l i (by have := HN.out; omega))
      have HSS := Lib.hid (show sortD l (i + 1) = putD (sortD l i) x (stopD (sortD l i) x i) by rw [sortD, hx])
      have HDR := Lib.hid (show sortD l i ++ l.drop i = putD (sortD l i) x i ++ l.drop (i + 1) by
        rw [drop_at hx]
        have := putD_end (sortD l i) (l.drop (i + 1)) x
        rw [HSL.out] at this
        exact this.symm)
      rw [HDR.out] at OW
      clear hx
      generalize sortD l i = S at *
      generalize hTT : l.drop (i + 1) = T at *
      have HTT := Lib.hid hTT; clear hTT
      obtain ⟨wo, hwo⟩ : ∃ wo : World, wo = wr := ⟨_, rfl⟩
      subst hwo
      go_wp2_with fail
      go_loopg [9] i (fun gg s9 wr => ∃ j : Nat, j ≤ i ∧ j ≤ gg ∧ s9 = .int .i64 (j : Int) ∧ Aside (Own encD 63 4 wr base (.slice (some ⟨g, 0, none⟩) n c) (putD S x j ++ T)) ∧ Aside (stopD S x i = stopD S x j) ∧ Aside (w.grownBy wr (some g)))
      case atStart => exact ⟨i, by omega, by omega, rfl, OW.out, rfl, GW.out⟩
      case round =>
        obtain ⟨j, hji, hgj, rfl, OJ, ST, GJ⟩ := hrel
        by_cases hj0 : j = 0
        · subst hj0
          have HFI := Lib.hid (show Own encD 63 4 wr base (.slice (some ⟨g, 0, none⟩) n c) (sortD l (i + 1) ++ T) by rw [HSS.out, ST.out]; exact OJ.out)
          go_wp2_with fail
          refine wp_region_tame (fun W => Ext wr W) (fun W W' => Ext W W') (by kernel_rfl) 53 rfl (by decide +kernel) (Ext.refl _).drew ?_
          repeat (apply tame_q rfl; (intro ρ W hC hr hD; (obtain ⟨hrc, hrg, hrf, hrs⟩ := hr); (simp [go_sem] at hD); go_simp; first | exact ⟨⟨hC, Ext.refl _⟩, rfl⟩ | exact ⟨⟨hC, RS.refl _⟩, rfl⟩ | exact rfl); simp only [List.nil_append, List.cons_append])
          refine tame_end 53 rfl rfl (fun ρ W hC hr hF => ?_)
          obtain ⟨hrc, hrg, hrf, hrs⟩ := hr
          simp [go_sem] at hF
          apply frame_to
          · go_simp
            exact rfl
          have HFI := Lib.hid (HFI.out.ext hC)
          have GJ2 := Lib.hid (grown_ext GJ.out hC)
          clear hF hrs hrc hrg hrf hC
          go_wp2
          go_roundg (n - (i + 1))
          case measure => omega
          case rel => exact ⟨i + 1, by omega, by omega, by omega, by simp, by rw [HTT.out]; exact HFI.out, GJ2.out⟩
        · obtain ⟨k, hk⟩ : ∃ k, j = k + 1 := ⟨j - 1, by omega⟩
          have HK := Lib.hid hk
          have hkn : k < n := by omega
          have hjn : j < n := by omega
          have hjS : j ≤ S.length := by have := HSL.out; omega
          obtain ⟨y, hy⟩ : ∃ y, S[k]? = some y := ⟨_, List.getElem?_eq_getElem (by omega)⟩
          have HY := Lib.hid hy
          have hsl : SlD wr (.slice (some ⟨g, 0, none⟩) n c) (putD S x j ++ T) := OJ.out.sl (fun _ => rfl)
          obtain ⟨bb, off, x', e1, hx', -, hxc⟩ := hsl.at_ hjn
          injection e1 with e1
          injection e1 with e1 e2 _
          subst e1 e2
          obtain rfl : x' = x := by rw [putD_at S T x hjS] at hx'; injection hx' with h; exact h.symm
          obtain ⟨bb, off, y', e1, hy', -, hyc⟩ := hsl.at_ hkn
          injection e1 with e1
          injection e1 with e1 e2 _
          subst e1 e2
          obtain rfl : y' = y := by rw [hk, putD_before S T x' (by omega), hy] at hy'; injection hy' with h; exact h.symm
          have cx := fun W (h : Ext wr W) => SlD.cells hxc h
          have cy := fun W (h : Ext wr W) => SlD.cells hyc h
          simp only [Nat.zero_add] at cx cy
          have x0 := fun W (h : Ext wr W) => (cx W h).1
          have x1 := fun W (h : Ext wr W) => (cx W h).2.1
          have x2 := fun W (h : Ext wr W) => (cx W h).2.2.1
          have x3 := fun W (h : Ext wr W) => (cx W h).2.2.2
          have y0 := fun W (h : Ext wr W) => (cy W h).1
          have y1 := fun W (h : Ext wr W) => (cy W h).2.1
          have y2 := fun W (h : Ext wr W) => (cy W h).2.2.1
          have y3 := fun W (h : Ext wr W) => (cy W h).2.2.2
          have hjz : (0 : Int) < (j : Int) := by omega
          have hjp : 0 < j := by omega
          have hjz2 : (j : Int) < (n : Int) := by omega
          have hjs : (j : Int) - 1 = (k : Int) := by omega
          have hkz2 : (k : Int) < (n : Int) := by omega
          clear hk hx' hy' hsl hy cx cy hxc hyc
          have hwk := wrap_nat (k := k) (by omega)
          have hmj : (putD S x' j ++ T)[j]? = some x' := putD_at S T x' hjS
          have hmk : (putD S x' j ++ T)[k]? = some y' := by rw [HK.out, putD_before S T x' (by have := HK.out; omega)]; exact HY.out
          have hml : (putD S x' j ++ T).length = n := by have := OJ.out.sl (fun _ => rfl) (enc := encD); obtain ⟨_, _, e, _⟩ := this; injection e with _ e _; exact e.symm
          by_cases hxy : x'.number < y'.number
          · have hcv : cmpI x'.number y'.number = -1 := by unfold cmpI; rw [if_pos hxy]
            have HST := Lib.hid (show stopD S x' i = stopD S x' k by rw [ST.out, HK.out, stopD, HY.out]; simp only; rw [if_pos hxy])
            have HSW := Lib.hid (show ((putD S x' j ++ T).set j y').set k x' = putD S x' k ++ T by rw [HK.out]; exact putD_swap S T x' y' HY.out)
            go_wp2_with fail
            refine wp_region_tame (fun W => Ext wr W) (fun W W' => Ext W W') (by kernel_rfl) 53 rfl (by decide +kernel) (Ext.refl _).drew ?_
            repeat (apply tame_q rfl; (intro ρ W hC hr hD; (obtain ⟨hrc, hrg, hrf, hrs⟩ := hr); (simp [go_sem] at hD); go_simp; first | exact ⟨⟨hC, Ext.refl _⟩, rfl⟩ | exact ⟨⟨hC, RS.refl _⟩, rfl⟩ | exact rfl); simp only [List.nil_append, List.cons_append])
            apply tame_q rfl
            · intro ρ W hC hr hD
              obtain ⟨hrc, hrg, hrf, hrs⟩ := hr
              simp [go_sem] at hD
              go_simp
              refine (f114_any x' y' W).mono ?_
              rintro e w' ⟨rfl, hE⟩
              rw [hcv]
              exact ⟨_, rfl, ⟨hC.trans hE, hE⟩, rfl⟩
            simp only [List.nil_append, List.cons_append]
            repeat (apply tame_q rfl; (intro ρ W hC hr hD; (obtain ⟨hrc, hrg, hrf, hrs⟩ := hr); (simp [go_sem] at hD); go_simp; first | exact ⟨⟨hC, Ext.refl _⟩, rfl⟩ | exact ⟨⟨hC, RS.refl _⟩, rfl⟩ | exact rfl); simp only [List.nil_append, List.cons_append])
            refine tame_end 53 rfl rfl (fun ρ W hC hr hF => ?_)
            obtain ⟨hrc, hrg, hrf, hrs⟩ := hr
            simp [go_sem] at hF
            apply frame_to
            · go_simp
              exact rfl
            have OJ2 := Lib.hid (OJ.out.ext hC)
            have GJ2 := Lib.hid (grown_ext GJ.out hC)
            clear hF hrs hrc hrg hrf x0 x1 x2 x3 y0 y1 y2 y3 hC hcv
            generalize hm0 : putD S x' j ++ T = m0 at *
            go_wp2_with fail
            refine wp_region_tameN_cut (fun W' => W.grownBy W' (some g) ∧ ∃ m, Own encD 63 4 W' base (.slice (some ⟨g, 0, none⟩) n c) m ∧ m.length = n) (fun A B => Own encD 63 4 A base (.slice (some ⟨g, 0, none⟩) n c) (m0.set j y') → Own encD 63 4 B base (.slice (some ⟨g, 0, none⟩) n c) (m0.set j y')) (fun W' => Own encD 63 4 W' base (.slice (some ⟨g, 0, none⟩) n c) m0) 15 (by kernel_rfl) 53 rfl _ rfl (by decide +kernel) (by decide +kernel) (by decide +kernel) rfl ⟨⟨rfl, rfl, rfl, Nat.le_refl _, fun _ _ _ => rfl⟩, m0, OJ2.out, hml⟩ OJ2.out ?_
            simp only [List.dropLast]
            repeat (apply tameN_q rfl; (intro ρ W hC hN hr hD; (obtain ⟨hrc, hrg, hrf, hrs⟩ := hr); (simp [go_sem] at hD); go_simp; first | exact ⟨⟨hC, fun h => h, fun _ h => h⟩, rfl⟩ | exact ⟨hC, fun h => h, fun _ h => h⟩ | exact rfl); simp only [List.nil_append, List.cons_append])
            apply tameN_q rfl
            · intro ρ W' hC hN hr hD
              obtain ⟨hrc, hrg, hrf, hrs⟩ := hr
              simp [go_sem] at hD
              obtain ⟨b0, b1, b2, b3, bl⟩ := own_at63 (hN rfl) hmk
              go_simp
              first | exact ⟨⟨hC, fun h => h, fun _ h => h⟩, rfl⟩ | exact ⟨hC, fun h => h, fun _ h => h⟩
            simp only [List.nil_append, List.cons_append]
            repeat (apply tameN_q rfl; (intro ρ W hC hN hr hD; (obtain ⟨hrc, hrg, hrf, hrs⟩ := hr); (simp [go_sem] at hD); go_simp; first | exact ⟨⟨hC, fun h => h, fun _ h => h⟩, rfl⟩ | exact ⟨hC, fun h => h, fun _ h => h⟩ | exact rfl); simp only [List.nil_append, List.cons_append])
            apply tameN_q rfl
            · intro ρ W' hC hN hr hD
              obtain ⟨hrc, hrg, hrf, hrs⟩ := hr
              simp [go_sem] at hD
              obtain ⟨b0, b1, b2, b3, bl⟩ := own_at63 (hN rfl) hmj
              go_simp
              first | exact ⟨⟨hC, fun h => h, fun _ h => h⟩, rfl⟩ | exact ⟨hC, fun h => h, fun _ h => h⟩
            simp only [List.nil_append, List.cons_append]
            repeat (apply tameN_q rfl; (intro ρ W hC hN hr hD; (obtain ⟨hrc, hrg, hrf, hrs⟩ := hr); (simp [go_sem] at hD); go_simp; first | exact ⟨⟨hC, fun h => h, fun _ h => h⟩, rfl⟩ | exact ⟨hC, fun h => h, fun _ h => h⟩ | exact rfl); simp only [List.nil_append, List.cons_append])
            apply tameN_n (fun _ W' => Own encD 63 4 W' base (.slice (some ⟨g, 0, none⟩) n c) (m0.set j y')) (fun _ A B _ hR h => hR h)
            · intro ρ W' hC hN hr hD
              obtain ⟨hrc, hrg, hrf, hrs⟩ := hr
              simp [go_sem] at hD
              have h0 := hN rfl
              obtain ⟨a0, a1, a2, a3, al⟩ := own_at63 h0 hmj
              have df : ∀ k, W'.frozen? ⟨g, k, none⟩ = false := fun k => own_frozen h0 k
              have h4 := own_put4 (enc := encD) (fun _ => rfl) (x := y') rfl h0 hml.symm (show j < n from hjn)
              have H4 := Lib.hid h4; have HC := Lib.hid hC.1
              clear h4 h0 hN hC
              go_simp
              exact ⟨⟨⟨grown_set (grown_set (grown_set (grown_set HC.out (p := ⟨g, _, none⟩) (.inl rfl) _) (p := ⟨g, _, none⟩) (.inl rfl) _) (p := ⟨g, _, none⟩) (.inl rfl) _) (p := ⟨g, _, none⟩) (.inl rfl) _, _, H4.out, by rw [List.length_set]; exact hml⟩, fun _ => H4.out, fun h => by cases h⟩, H4.out⟩
            simp only [List.nil_append, List.cons_append]
            repeat (apply tameN_q rfl; (intro ρ W hC hN hr hD; (obtain ⟨hrc, hrg, hrf, hrs⟩ := hr); (simp [go_sem] at hD); go_simp; first | exact ⟨⟨hC, fun h => h, fun _ h => h⟩, rfl⟩ | exact ⟨hC, fun h => h, fun _ h => h⟩ | exact rfl); simp only [List.nil_append, List.cons_append])
            refine tameN_end 53 rfl rfl (fun ρ W' hC hr hF => ?_)
            obtain ⟨hrc, hrg, hrf, hrs⟩ := hr
            simp [go_sem] at hF
            obtain ⟨f37, f38, f39, f40, f41, f42, f43, f44, f45, f46, f47, f48, f49, f50, f51, fS, f52⟩ := hF
            apply frame_to
            · go_simp
              exact rfl
            have OJ4 := Lib.hid fS
            have GJ3 := Lib.hid (grown_tr GJ2.out hC.1)
            clear f37 f38 f39 f40 f41 f42 f43 f44 f45 f46 f47 f48 f49 f50 f51 fS f52 hrs hrc hrg hrf hC
            have hne : ¬ j = k := by have := HK.out; omega
            obtain ⟨b0, b1, b2, b3, bl⟩ := own_at63 OJ4.out (show (m0.set j y')[k]? = some y' by rw [List.getElem?_set, if_neg hne]; exact hmk)
            have df : ∀ k, W'.frozen? ⟨g, k, none⟩ = false := fun k => own_frozen OJ4.out k
            have OJ5 := Lib.hid (own_put4 (enc := encD) (fun _ => rfl) (x := x') rfl OJ4.out (by rw [List.length_set]; exact hml.symm) (show k < n from hkn))
            rw [HSW.out] at OJ5
            clear hmj hmk
            go_wp2
            go_roundg k
            case measure => have := HK.out; omega
            case rel => exact ⟨k, by have := HK.out; omega, by omega, rfl, OJ5.out, HST.out, grown_set (grown_set (grown_set (grown_set GJ3.out (p := ⟨g, _, none⟩) (.inl rfl) _) (p := ⟨g, _, none⟩) (.inl rfl) _) (p := ⟨g, _, none⟩) (.inl rfl) _) (p := ⟨g, _, none⟩) (.inl rfl) _⟩
          · have hcn : ¬ cmpI x'.number y'.number < 0 := by unfold cmpI; rw [if_neg hxy]; split <;> omega
            have hcd : decide (cmpI x'.number y'.number < 0) = false := decide_eq_false hcn
            have HFI := Lib.hid (show Own encD 63 4 wr base (.slice (some ⟨g, 0, none⟩) n c) (sortD l (i + 1) ++ T) by
              rw [HSS.out, ST.out, show stopD S x' j = j by rw [HK.out, stopD, HY.out]; simp only; rw [if_neg hxy]]
              exact OJ.out)
            go_wp2_with fail
            refine wp_region_tame (fun W => Ext wr W) (fun W W' => Ext W W') (by kernel_rfl) 53 rfl (by decide +kernel) (Ext.refl _).drew ?_
            repeat (apply tame_q rfl; (intro ρ W hC hr hD; (obtain ⟨hrc, hrg, hrf, hrs⟩ := hr); (simp [go_sem] at hD); go_simp; first | exact ⟨⟨hC, Ext.refl _⟩, rfl⟩ | exact ⟨⟨hC, RS.refl _⟩, rfl⟩ | exact rfl); simp only [List.nil_append, List.cons_append])
            apply tame_q rfl
            · intro ρ W hC hr hD
              obtain ⟨hrc, hrg, hrf, hrs⟩ := hr
              simp [go_sem] at hD
              go_simp
              refine (f114_any x' y' W).mono ?_
              rintro e w' ⟨rfl, hE⟩
              exact ⟨_, rfl, ⟨hC.trans hE, hE⟩, rfl⟩
            simp only [List.nil_append, List.cons_append]
            repeat (apply tame_q rfl; (intro ρ W hC hr hD; (obtain ⟨hrc, hrg, hrf, hrs⟩ := hr); (simp [go_sem] at hD); go_simp; first | exact ⟨⟨hC, Ext.refl _⟩, rfl⟩ | exact ⟨⟨hC, RS.refl _⟩, rfl⟩ | exact rfl); simp only [List.nil_append, List.cons_append])
            refine tame_end 53 rfl rfl (fun ρ W hC hr hF => ?_)
            obtain ⟨hrc, hrg, hrf, hrs⟩ := hr
            simp [go_sem] at hF
            apply frame_to
            · go_simp
              exact rfl
            have HFI := Lib.hid (HFI.out.ext hC)
            have GJ2 := Lib.hid (grown_ext GJ.out hC)
            clear hF hrs hrc hrg hrf x0 x1 x2 x3 y0 y1 y2 y3 hC
            go_wp2
            go_roundg (n - (i + 1))
            case measure => omega
            case rel => exact ⟨i + 1, by omega, by omega, by omega, by simp, by rw [HTT.out]; exact HFI.out, GJ2.out⟩
    · have hie : i = n := by omega
      subst hie
      have HF := Lib.hid (show sortD l i ++ l.drop i = sortD l i by rw [List.drop_eq_nil_of_le (by have := HN.out; omega), List.append_nil])
      go_wp2
      refine bodyPost_end (results_none rfl _ _ _) rfl ?_
      exact ⟨⟨_, rfl⟩, by rw [← HF.out]; exact OW.out, GW.out⟩

theorem f145_any (l : List Draw) (g n c base : Nat) (w : World) (hn : n = l.length) (hn0 : 0 < n) (hn20 : n < 20) (ho : Own encD 63 4 w base (.slice (some ⟨g, 0, none⟩) n c) l) :
    Calls Tryd.prog 145 #[.slice (some ⟨g, 0, none⟩) n c, .int .i64 (n : Int), .func (.func 114) #[] #[]] w fun e w' => (∃ v, e = .returned v) ∧ Own encD 63 4 w' base (.slice (some ⟨g, 0, none⟩) n c) (sortD l n) ∧ w.grownBy w' (some g) := by
  have HI := Lib.hid (f155_any l g n c base w hn hn0 (by omega) ho)
  have h1 : (n : Int) < 20 := by omega
  clear ho hn
  go_enter Tryd.func145, Tryd.ntmps145
  go_wp2
  go_loopg [7, 8] 1 (fun gg s7 s8 wr => gg = 1 ∧ s7 = .int .i64 0 ∧ s8 = .int .i64 20 ∧ wr = w)
  case atStart => exact ⟨rfl, rfl, rfl, rfl⟩
  case round =>
    obtain ⟨rfl, rfl, rfl, rfl⟩ := hrel
    go_wp2_with fail
    refine HI.out.mono ?_
    rintro e w2 ⟨⟨v, rfl⟩, ho, hg⟩
    have HO := Lib.hid ho; have HG := Lib.hid hg
    clear ho hg HI
    go_wp2
    go_loopg [6, 7, 8, 9] 1 (fun gg s6 s7 s8 _ wr => gg = 1 ∧ s6 = .int .i64 20 ∧ s7 = .int .i64 0 ∧ s8 = .int .i64 20 ∧ wr = w2)
    case atStart => exact ⟨rfl, rfl, rfl, rfl, rfl⟩
    case round =>
      obtain ⟨rfl, rfl, rfl, rfl, rfl⟩ := hrel
      go_wp2
      refine bodyPost_end (results_none rfl _ _ _) rfl ?_
      exact ⟨⟨_, rfl⟩, HO.out, HG.out⟩
theorem f113_any (l : List Draw) (g n c base : Nat) (w : World) (hn : n = l.length) (hn0 : 0 < n) (hn20 : n < 20) (ho : Own encD 63 4 w base (.slice (some ⟨g, 0, none⟩) n c) l) :
    Calls Tryd.prog 113 #[.slice (some ⟨g, 0, none⟩) n c, .func (.func 114) #[] #[]] w fun e w' => (∃ v, e = .returned v) ∧ Own encD 63 4 w' base (.slice (some ⟨g, 0, none⟩) n c) (sortD l n) ∧ w.grownBy w' (some g) := by
  have HI := Lib.hid (f145_any l g n c base w hn hn0 hn20 ho)
  clear ho hn
  go_enter Tryd.func113, Tryd.ntmps113
  go_wp2_with fail
  refine HI.out.mono ?_
  rintro e w2 ⟨⟨v, rfl⟩, ho, hg⟩
  have HO := Lib.hid ho; have HG := Lib.hid hg
  clear ho hg HI
  go_wp2
  refine bodyPost_end (results_none rfl _ _ _) rfl ?_
  exact ⟨⟨_, rfl⟩, HO.out, HG.out⟩
theorem own_at65 {W : World} {base g n c k : Nat} {m : List Weigh} {y : Weigh} (h : Own encW 65 4 W base (.slice (some ⟨g, 0, none⟩) n c) m) (hy : m[k]? = some y) :
    W.cell? ⟨g, k * 4, none⟩ = some (.int .i64 y.number) ∧ W.cell? ⟨g, k * 4 + 1, none⟩ = some (.int .i64 y.pounds) ∧ W.cell? ⟨g, k * 4 + 2, none⟩ = some (.int .i64 y.damp.lo) ∧ W.cell? ⟨g, k * 4 + 3, none⟩ = some (.int .i64 y.damp.hi) ∧ g < W.heap.size := by
  have hsl : SlW W (.slice (some ⟨g, 0, none⟩) n c) m := h.sl (fun _ => rfl)
  have hk : k < n := by
    have h1 := (List.getElem?_eq_some_iff.1 hy).1
    obtain ⟨_, _, e, _⟩ := hsl
    injection e with _ e _
    omega
  obtain ⟨bb, off, y', e1, hy', hb, hc⟩ := hsl.at_ hk
  injection e1 with e1
  injection e1 with e1 e2 _
  subst e1 e2
  rw [hy] at hy'
  injection hy' with hy'
  subst hy'
  obtain ⟨c0, c1, c2, c3⟩ := SlW.cells hc (Ext.refl _)
  simp only [Nat.zero_add] at c0 c1 c2 c3
  exact ⟨c0, c1, c2, c3, hb⟩
theorem f117_any (x y : Weigh) (w : World) : Calls Tryd.prog 117 #[valW x, valW y] w fun e w' => e = .returned (.int .i64 (cmpI x.number y.number)) ∧ Ext w w' := by
  dsimp only [valW]
  go_enter Tryd.func117, Tryd.ntmps117
  go_wp2_with fail
  refine (compare_any x.number y.number _).mono ?_
  rintro e w1 ⟨rfl, hE1⟩
  have HE1 := Lib.hid ((((Ext.al _ _).alloc _ : Ext w _)).trans hE1); clear hE1
  go_wp2
  go_ret
  exact ⟨rfl, HE1.out⟩

/-- Where a draw comes to stand. -/
def stopW (S : List Weigh) (x : Weigh) : Nat → Nat
  | 0 => 0
  | j + 1 => match S[j]? with
    | some y => if x.number < y.number then stopW S x j else j + 1
    | none => j + 1
def putW (S : List Weigh) (x : Weigh) (j : Nat) : List Weigh := S.take j ++ x :: S.drop j
def sortW (l : List Weigh) : Nat → List Weigh
  | 0 => []
  | k + 1 => match l[k]? with
    | some x => putW (sortW l k) x (stopW (sortW l k) x k)
    | none => sortW l k
theorem stopW_le (S : List Weigh) (x : Weigh) : ∀ j, stopW S x j ≤ j
  | 0 => Nat.le_refl _
  | j + 1 => by
    unfold stopW
    split
    · split
      · exact Nat.le_succ_of_le (stopW_le S x j)
      · exact Nat.le_refl _
    · exact Nat.le_refl _
theorem putW_len (S : List Weigh) (x : Weigh) {j : Nat} (hj : j ≤ S.length) : (putW S x j).length = S.length + 1 := by unfold putW; simp; omega
theorem sortW_len (l : List Weigh) : ∀ k, k ≤ l.length → (sortW l k).length = k
  | 0, _ => rfl
  | k + 1, h => by
    have ih := sortW_len l k (by omega)
    unfold sortW
    rw [List.getElem?_eq_getElem (show k < l.length by omega)]
    simp only
    rw [putW_len _ _ (by rw [ih]; exact stopW_le _ _ _), ih]
theorem putW_at (S T : List Weigh) (x : Weigh) {j : Nat} (hj : j ≤ S.length) : (putW S x j ++ T)[j]? = some x := by
  unfold putW
  rw [List.append_assoc, List.getElem?_append_right (by simp; omega)]
  simp [List.length_take, Nat.min_eq_left hj]
theorem putW_before (S T : List Weigh) (x : Weigh) {j : Nat} (hj : j < S.length) : (putW S x (j + 1) ++ T)[j]? = S[j]? := by
  unfold putW
  rw [List.append_assoc, List.getElem?_append_left (by simp; omega), List.getElem?_take, if_pos (by omega)]
theorem putW_swap (S T : List Weigh) (x y : Weigh) {j : Nat} (hy : S[j]? = some y) : ((putW S x (j + 1) ++ T).set (j + 1) y).set j x = putW S x j ++ T := by
  have hj : j < S.length := (List.getElem?_eq_some_iff.1 hy).1
  have h1 : S.take (j + 1) = S.take j ++ [y] := by rw [List.take_add_one, hy]; rfl
  have h2 : S.drop j = y :: S.drop (j + 1) := drop_at hy
  unfold putW
  rw [h1, h2]
  have hl : (S.take j).length = j := by simp; omega
  rw [show List.take j S ++ [y] ++ x :: List.drop (j + 1) S ++ T = List.take j S ++ (y :: x :: (List.drop (j + 1) S ++ T)) by simp]
  rw [List.set_append_right (j + 1) y (by omega), List.set_append_right j x (by omega), hl]
  rw [show j + 1 - j = 1 by omega, Nat.sub_self]
  simp
theorem putW_end (S T : List Weigh) (x : Weigh) : putW S x S.length ++ T = S ++ (x :: T) := by unfold putW; simp

set_option maxHeartbeats 2000000 in
theorem f157_any (l : List Weigh) (g n c base : Nat) (w : World) (hn : n = l.length) (hn0 : 0 < n) (hn20 : n ≤ 20) (ho : Own encW 65 4 w base (.slice (some ⟨g, 0, none⟩) n c) l) :
    Calls Tryd.prog 157 #[.slice (some ⟨g, 0, none⟩) n c, .int .i64 0, .int .i64 (n : Int), .func (.func 117) #[] #[]] w fun e w' => (∃ v, e = .returned v) ∧ Own encW 65 4 w' base (.slice (some ⟨g, 0, none⟩) n c) (sortW l n) ∧ w.grownBy w' (some g) := by
  have HO := Lib.hid ho
  have HN := Lib.hid hn
  have eg : ∀ args w, (callFunc 117 args).run Tryd.prog w = .ok (.enter 117 args) w := enters_of Tryd.func117 (by kernel_rfl) rfl
  clear ho hn
  go_enter Tryd.func157, Tryd.ntmps157
  go_wp2
  go_loopg [8, 9] n (fun gg s8 _ wr => ∃ i : Nat, 1 ≤ i ∧ i ≤ n ∧ n - i ≤ gg ∧ s8 = .int .i64 (i : Int) ∧ Aside (Own encW 65 4 wr base (.slice (some ⟨g, 0, none⟩) n c) (sortW l i ++ l.drop i)) ∧ Aside (w.grownBy wr (some g)))
  case atStart => exact ⟨1, by omega, by omega, by omega, rfl, by
    have h0 : 0 < l.length := by have := HN.out; omega
    have : sortW l 1 ++ l.drop 1 = l := by
      match l, h0 with
      | x :: r, _ => simp [sortW, stopW, putW]
    rw [this]; exact HO.out, World.grownBy.refl _ _⟩
  case round =>
    obtain ⟨i, hi1, hin, hgg, rfl, OW, GW⟩ := hrel
    by_cases hiN : i < n
    · have hiz : (i : Int) < (n : Int) := by omega
      obtain ⟨x, hx⟩ : ∃ x, l[i]? = some x := ⟨_, List.getElem?_eq_getElem (by have := HN.out; omega)⟩
      have HX := Lib.hid hx
      have HSL := Lib.hid (sortW_len l i (by have := HN.out; omega))
      have HSS := Lib.hid (show sortW l (i + 1) = putW (sortW l i) x (stopW (sortW l i) x i) by rw [sortW, hx])
      have HDR := Lib.hid (show sortW l i ++ l.drop i = putW (sortW l i) x i ++ l.drop (i + 1) by
        rw [drop_at hx]
        have := putW_end (sortW l i) (l.drop (i + 1)) x
        rw [HSL.out] at this
        exact this.symm)
      rw [HDR.out] at OW
      clear hx
      generalize sortW l i = S at *
      generalize hTT : l.drop (i + 1) = T at *
      have HTT := Lib.hid hTT; clear hTT
      obtain ⟨wo, hwo⟩ : ∃ wo : World, wo = wr := ⟨_, rfl⟩
      subst hwo
      go_wp2_with fail
      go_loopg [9] i (fun gg s9 wr => ∃ j : Nat, j ≤ i ∧ j ≤ gg ∧ s9 = .int .i64 (j : Int) ∧ Aside (Own encW 65 4 wr base (.slice (some ⟨g, 0, none⟩) n c) (putW S x j ++ T)) ∧ Aside (stopW S x i = stopW S x j) ∧ Aside (w.grownBy wr (some g)))
      case atStart => exact ⟨i, by omega, by omega, rfl, OW.out, rfl, GW.out⟩
      case round =>
        obtain ⟨j, hji, hgj, rfl, OJ, ST, GJ⟩ := hrel
        by_cases hj0 : j = 0
        · subst hj0
          have HFI := Lib.hid (show Own encW 65 4 wr base (.slice (some ⟨g, 0, none⟩) n c) (sortW l (i + 1) ++ T) by rw [HSS.out, ST.out]; exact OJ.out)
          go_wp2_with fail
          refine wp_region_tame (fun W => Ext wr W) (fun W W' => Ext W W') (by kernel_rfl) 53 rfl (by decide +kernel) (Ext.refl _).drew ?_
          repeat (apply tame_q rfl; (intro ρ W hC hr hD; (obtain ⟨hrc, hrg, hrf, hrs⟩ := hr); (simp [go_sem] at hD); go_simp; first | exact ⟨⟨hC, Ext.refl _⟩, rfl⟩ | exact ⟨⟨hC, RS.refl _⟩, rfl⟩ | exact rfl); simp only [List.nil_append, List.cons_append])
          refine tame_end 53 rfl rfl (fun ρ W hC hr hF => ?_)
          obtain ⟨hrc, hrg, hrf, hrs⟩ := hr
          simp [go_sem] at hF
          apply frame_to
          · go_simp
            exact rfl
          have HFI := Lib.hid (HFI.out.ext hC)
          have GJ2 := Lib.hid (grown_ext GJ.out hC)
          clear hF hrs hrc hrg hrf hC
          go_wp2
          go_roundg (n - (i + 1))
          case measure => omega
          case rel => exact ⟨i + 1, by omega, by omega, by omega, by simp, by rw [HTT.out]; exact HFI.out, GJ2.out⟩
        · obtain ⟨k, hk⟩ : ∃ k, j = k + 1 := ⟨j - 1, by omega⟩
          have HK := Lib.hid hk
          have hkn : k < n := by omega
          have hjn : j < n := by omega
          have hjS : j ≤ S.length := by have := HSL.out; omega
          obtain ⟨y, hy⟩ : ∃ y, S[k]? = some y := ⟨_, List.getElem?_eq_getElem (by omega)⟩
          have HY := Lib.hid hy
          have hsl : SlW wr (.slice (some ⟨g, 0, none⟩) n c) (putW S x j ++ T) := OJ.out.sl (fun _ => rfl)
          obtain ⟨bb, off, x', e1, hx', -, hxc⟩ := hsl.at_ hjn
          injection e1 with e1
          injection e1 with e1 e2 _
          subst e1 e2
          obtain rfl : x' = x := by rw [putW_at S T x hjS] at hx'; injection hx' with h; exact h.symm
          obtain ⟨bb, off, y', e1, hy', -, hyc⟩ := hsl.at_ hkn
          injection e1 with e1
          injection e1 with e1 e2 _
          subst e1 e2
          obtain rfl : y' = y := by rw [hk, putW_before S T x' (by omega), hy] at hy'; injection hy' with h; exact h.symm
          have cx := fun W (h : Ext wr W) => SlW.cells hxc h
          have cy := fun W (h : Ext wr W) => SlW.cells hyc h
          simp only [Nat.zero_add] at cx cy
          have x0 := fun W (h : Ext wr W) => (cx W h).1
          have x1 := fun W (h : Ext wr W) => (cx W h).2.1
          have x2 := fun W (h : Ext wr W) => (cx W h).2.2.1
          have x3 := fun W (h : Ext wr W) => (cx W h).2.2.2
          have y0 := fun W (h : Ext wr W) => (cy W h).1
          have y1 := fun W (h : Ext wr W) => (cy W h).2.1
          have y2 := fun W (h : Ext wr W) => (cy W h).2.2.1
          have y3 := fun W (h : Ext wr W) => (cy W h).2.2.2
          have hjz : (0 : Int) < (j : Int) := by omega
          have hjp : 0 < j := by omega
          have hjz2 : (j : Int) < (n : Int) := by omega
          have hjs : (j : Int) - 1 = (k : Int) := by omega
          have hkz2 : (k : Int) < (n : Int) := by omega
          clear hk hx' hy' hsl hy cx cy hxc hyc
          have hwk := wrap_nat (k := k) (by omega)
          have hmj : (putW S x' j ++ T)[j]? = some x' := putW_at S T x' hjS
          have hmk : (putW S x' j ++ T)[k]? = some y' := by rw [HK.out, putW_before S T x' (by have := HK.out; omega)]; exact HY.out
          have hml : (putW S x' j ++ T).length = n := by have := OJ.out.sl (fun _ => rfl) (enc := encW); obtain ⟨_, _, e, _⟩ := this; injection e with _ e _; exact e.symm
          by_cases hxy : x'.number < y'.number
          · have hcv : cmpI x'.number y'.number = -1 := by unfold cmpI; rw [if_pos hxy]
            have HST := Lib.hid (show stopW S x' i = stopW S x' k by rw [ST.out, HK.out, stopW, HY.out]; simp only; rw [if_pos hxy])
            have HSW := Lib.hid (show ((putW S x' j ++ T).set j y').set k x' = putW S x' k ++ T by rw [HK.out]; exact putW_swap S T x' y' HY.out)
            go_wp2_with fail
            refine wp_region_tame (fun W => Ext wr W) (fun W W' => Ext W W') (by kernel_rfl) 53 rfl (by decide +kernel) (Ext.refl _).drew ?_
            repeat (apply tame_q rfl; (intro ρ W hC hr hD; (obtain ⟨hrc, hrg, hrf, hrs⟩ := hr); (simp [go_sem] at hD); go_simp; first | exact ⟨⟨hC, Ext.refl _⟩, rfl⟩ | exact ⟨⟨hC, RS.refl _⟩, rfl⟩ | exact rfl); simp only [List.nil_append, List.cons_append])
            apply tame_q rfl
            · intro ρ W hC hr hD
              obtain ⟨hrc, hrg, hrf, hrs⟩ := hr
              simp [go_sem] at hD
              go_simp
              refine (f117_any x' y' W).mono ?_
              rintro e w' ⟨rfl, hE⟩
              rw [hcv]
              exact ⟨_, rfl, ⟨hC.trans hE, hE⟩, rfl⟩
            simp only [List.nil_append, List.cons_append]
            repeat (apply tame_q rfl; (intro ρ W hC hr hD; (obtain ⟨hrc, hrg, hrf, hrs⟩ := hr); (simp [go_sem] at hD); go_simp; first | exact ⟨⟨hC, Ext.refl _⟩, rfl⟩ | exact ⟨⟨hC, RS.refl _⟩, rfl⟩ | exact rfl); simp only [List.nil_append, List.cons_append])
            refine tame_end 53 rfl rfl (fun ρ W hC hr hF => ?_)
            obtain ⟨hrc, hrg, hrf, hrs⟩ := hr
            simp [go_sem] at hF
            apply frame_to
            · go_simp
              exact rfl
            have OJ2 := Lib.hid (OJ.out.ext hC)
            have GJ2 := Lib.hid (grown_ext GJ.out hC)
            clear hF hrs hrc hrg hrf x0 x1 x2 x3 y0 y1 y2 y3 hC hcv
            generalize hm0 : putW S x' j ++ T = m0 at *
            go_wp2_with fail
            refine wp_region_tameN_cut (fun W' => W.grownBy W' (some g) ∧ ∃ m, Own encW 65 4 W' base (.slice (some ⟨g, 0, none⟩) n c) m ∧ m.length = n) (fun A B => Own encW 65 4 A base (.slice (some ⟨g, 0, none⟩) n c) (m0.set j y') → Own encW 65 4 B base (.slice (some ⟨g, 0, none⟩) n c) (m0.set j y')) (fun W' => Own encW 65 4 W' base (.slice (some ⟨g, 0, none⟩) n c) m0) 15 (by kernel_rfl) 53 rfl _ rfl (by decide +kernel) (by decide +kernel) (by decide +kernel) rfl ⟨⟨rfl, rfl, rfl, Nat.le_refl _, fun _ _ _ => rfl⟩, m0, OJ2.out, hml⟩ OJ2.out ?_
            simp only [List.dropLast]
            repeat (apply tameN_q rfl; (intro ρ W hC hN hr hD; (obtain ⟨hrc, hrg, hrf, hrs⟩ := hr); (simp [go_sem] at hD); go_simp; first | exact ⟨⟨hC, fun h => h, fun _ h => h⟩, rfl⟩ | exact ⟨hC, fun h => h, fun _ h => h⟩ | exact rfl); simp only [List.nil_append, List.cons_append])
            apply tameN_q rfl
            · intro ρ W' hC hN hr hD
              obtain ⟨hrc, hrg, hrf, hrs⟩ := hr
              simp [go_sem] at hD
              obtain ⟨b0, b1, b2, b3, bl⟩ := own_at65 (hN rfl) hmk
              go_simp
              first | exact ⟨⟨hC, fun h => h, fun _ h => h⟩, rfl⟩ | exact ⟨hC, fun h => h, fun _ h => h⟩
            simp only [List.nil_append, List.cons_append]
            repeat (apply tameN_q rfl; (intro ρ W hC hN hr hD; (obtain ⟨hrc, hrg, hrf, hrs⟩ := hr); (simp [go_sem] at hD); go_simp; first | exact ⟨⟨hC, fun h => h, fun _ h => h⟩, rfl⟩ | exact ⟨hC, fun h => h, fun _ h => h⟩ | exact rfl); simp only [List.nil_append, List.cons_append])
            apply tameN_q rfl
            · intro ρ W' hC hN hr hD
              obtain ⟨hrc, hrg, hrf, hrs⟩ := hr
              simp [go_sem] at hD
              obtain ⟨b0, b1, b2, b3, bl⟩ := own_at65 (hN rfl) hmj
              go_simp
              first | exact ⟨⟨hC, fun h => h, fun _ h => h⟩, rfl⟩ | exact ⟨hC, fun h => h, fun _ h => h⟩
            simp only [List.nil_append, List.cons_append]
            repeat (apply tameN_q rfl; (intro ρ W hC hN hr hD; (obtain ⟨hrc, hrg, hrf, hrs⟩ := hr); (simp [go_sem] at hD); go_simp; first | exact ⟨⟨hC, fun h => h, fun _ h => h⟩, rfl⟩ | exact ⟨hC, fun h => h, fun _ h => h⟩ | exact rfl); simp only [List.nil_append, List.cons_append])
            apply tameN_n (fun _ W' => Own encW 65 4 W' base (.slice (some ⟨g, 0, none⟩) n c) (m0.set j y')) (fun _ A B _ hR h => hR h)
            · intro ρ W' hC hN hr hD
              obtain ⟨hrc, hrg, hrf, hrs⟩ := hr
              simp [go_sem] at hD
              have h0 := hN rfl
              obtain ⟨a0, a1, a2, a3, al⟩ := own_at65 h0 hmj
              have df : ∀ k, W'.frozen? ⟨g, k, none⟩ = false := fun k => own_frozen h0 k
              have h4 := own_put4 (enc := encW) (fun _ => rfl) (x := y') rfl h0 hml.symm (show j < n from hjn)
              have H4 := Lib.hid h4; have HC := Lib.hid hC.1
              clear h4 h0 hN hC
              go_simp
              exact ⟨⟨⟨grown_set (grown_set (grown_set (grown_set HC.out (p := ⟨g, _, none⟩) (.inl rfl) _) (p := ⟨g, _, none⟩) (.inl rfl) _) (p := ⟨g, _, none⟩) (.inl rfl) _) (p := ⟨g, _, none⟩) (.inl rfl) _, _, H4.out, by rw [List.length_set]; exact hml⟩, fun _ => H4.out, fun h => by cases h⟩, H4.out⟩
            simp only [List.nil_append, List.cons_append]
            repeat (apply tameN_q rfl; (intro ρ W hC hN hr hD; (obtain ⟨hrc, hrg, hrf, hrs⟩ := hr); (simp [go_sem] at hD); go_simp; first | exact ⟨⟨hC, fun h => h, fun _ h => h⟩, rfl⟩ | exact ⟨hC, fun h => h, fun _ h => h⟩ | exact rfl); simp only [List.nil_append, List.cons_append])
            refine tameN_end 53 rfl rfl (fun ρ W' hC hr hF => ?_)
            obtain ⟨hrc, hrg, hrf, hrs⟩ := hr
            simp [go_sem] at hF
            obtain ⟨f37, f38, f39, f40, f41, f42, f43, f44, f45, f46, f47, f48, f49, f50, f51, fS, f52⟩ := hF
            apply frame_to
            · go_simp
              exact rfl
            have OJ4 := Lib.hid fS
            have GJ3 := Lib.hid (grown_tr GJ2.out hC.1)
            clear f37 f38 f39 f40 f41 f42 f43 f44 f45 f46 f47 f48 f49 f50 f51 fS f52 hrs hrc hrg hrf hC
            have hne : ¬ j = k := by have := HK.out; omega
            obtain ⟨b0, b1, b2, b3, bl⟩ := own_at65 OJ4.out (show (m0.set j y')[k]? = some y' by rw [List.getElem?_set, if_neg hne]; exact hmk)
            have df : ∀ k, W'.frozen? ⟨g, k, none⟩ = false := fun k => own_frozen OJ4.out k
            have OJ5 := Lib.hid (own_put4 (enc := encW) (fun _ => rfl) (x := x') rfl OJ4.out (by rw [List.length_set]; exact hml.symm) (show k < n from hkn))
            rw [HSW.out] at OJ5
            clear hmj hmk
            go_wp2
            go_roundg k
            case measure => have := HK.out; omega
            case rel => exact ⟨k, by have := HK.out; omega, by omega, rfl, OJ5.out, HST.out, grown_set (grown_set (grown_set (grown_set GJ3.out (p := ⟨g, _, none⟩) (.inl rfl) _) (p := ⟨g, _, none⟩) (.inl rfl) _) (p := ⟨g, _, none⟩) (.inl rfl) _) (p := ⟨g, _, none⟩) (.inl rfl) _⟩
          · have hcn : ¬ cmpI x'.number y'.number < 0 := by unfold cmpI; rw [if_neg hxy]; split <;> omega
            have hcd : decide (cmpI x'.number y'.number < 0) = false := decide_eq_false hcn
            have HFI := Lib.hid (show Own encW 65 4 wr base (.slice (some ⟨g, 0, none⟩) n c) (sortW l (i + 1) ++ T) by
              rw [HSS.out, ST.out, show stopW S x' j = j by rw [HK.out, stopW, HY.out]; simp only; rw [if_neg hxy]]
              exact OJ.out)
            go_wp2_with fail
            refine wp_region_tame (fun W => Ext wr W) (fun W W' => Ext W W') (by kernel_rfl) 53 rfl (by decide +kernel) (Ext.refl _).drew ?_
            repeat (apply tame_q rfl; (intro ρ W hC hr hD; (obtain ⟨hrc, hrg, hrf, hrs⟩ := hr); (simp [go_sem] at hD); go_simp; first | exact ⟨⟨hC, Ext.refl _⟩, rfl⟩ | exact ⟨⟨hC, RS.refl _⟩, rfl⟩ | exact rfl); simp only [List.nil_append, List.cons_append])
            apply tame_q rfl
            · intro ρ W hC hr hD
              obtain ⟨hrc, hrg, hrf, hrs⟩ := hr
              simp [go_sem] at hD
              go_simp
              refine (f117_any x' y' W).mono ?_
              rintro e w' ⟨rfl, hE⟩
              exact ⟨_, rfl, ⟨hC.trans hE, hE⟩, rfl⟩
            simp only [List.nil_append, List.cons_append]
            repeat (apply tame_q rfl; (intro ρ W hC hr hD; (obtain ⟨hrc, hrg, hrf, hrs⟩ := hr); (simp [go_sem] at hD); go_simp; first | exact ⟨⟨hC, Ext.refl _⟩, rfl⟩ | exact ⟨⟨hC, RS.refl _⟩, rfl⟩ | exact rfl); simp only [List.nil_append, List.cons_append])
            refine tame_end 53 rfl rfl (fun ρ W hC hr hF => ?_)
            obtain ⟨hrc, hrg, hrf, hrs⟩ := hr
            simp [go_sem] at hF
            apply frame_to
            · go_simp
              exact rfl
            have HFI := Lib.hid (HFI.out.ext hC)
            have GJ2 := Lib.hid (grown_ext GJ.out hC)
            clear hF hrs hrc hrg hrf x0 x1 x2 x3 y0 y1 y2 y3 hC
            go_wp2
            go_roundg (n - (i + 1))
            case measure => omega
            case rel => exact ⟨i + 1, by omega, by omega, by omega, by simp, by rw [HTT.out]; exact HFI.out, GJ2.out⟩
    · have hie : i = n := by omega
      subst hie
      have HF := Lib.hid (show sortW l i ++ l.drop i = sortW l i by rw [List.drop_eq_nil_of_le (by have := HN.out; omega), List.append_nil])
      go_wp2
      refine bodyPost_end (results_none rfl _ _ _) rfl ?_
      exact ⟨⟨_, rfl⟩, by rw [← HF.out]; exact OW.out, GW.out⟩

theorem f147_any (l : List Weigh) (g n c base : Nat) (w : World) (hn : n = l.length) (hn0 : 0 < n) (hn20 : n < 20) (ho : Own encW 65 4 w base (.slice (some ⟨g, 0, none⟩) n c) l) :
    Calls Tryd.prog 147 #[.slice (some ⟨g, 0, none⟩) n c, .int .i64 (n : Int), .func (.func 117) #[] #[]] w fun e w' => (∃ v, e = .returned v) ∧ Own encW 65 4 w' base (.slice (some ⟨g, 0, none⟩) n c) (sortW l n) ∧ w.grownBy w' (some g) := by
  have HI := Lib.hid (f157_any l g n c base w hn hn0 (by omega) ho)
  have h1 : (n : Int) < 20 := by omega
  clear ho hn
  go_enter Tryd.func147, Tryd.ntmps147
  go_wp2
  go_loopg [7, 8] 1 (fun gg s7 s8 wr => gg = 1 ∧ s7 = .int .i64 0 ∧ s8 = .int .i64 20 ∧ wr = w)
  case atStart => exact ⟨rfl, rfl, rfl, rfl⟩
  case round =>
    obtain ⟨rfl, rfl, rfl, rfl⟩ := hrel
    go_wp2_with fail
    refine HI.out.mono ?_
    rintro e w2 ⟨⟨v, rfl⟩, ho, hg⟩
    have HO := Lib.hid ho; have HG := Lib.hid hg
    clear ho hg HI
    go_wp2
    go_loopg [6, 7, 8, 9] 1 (fun gg s6 s7 s8 _ wr => gg = 1 ∧ s6 = .int .i64 20 ∧ s7 = .int .i64 0 ∧ s8 = .int .i64 20 ∧ wr = w2)
    case atStart => exact ⟨rfl, rfl, rfl, rfl, rfl⟩
    case round =>
      obtain ⟨rfl, rfl, rfl, rfl, rfl⟩ := hrel
      go_wp2
      refine bodyPost_end (results_none rfl _ _ _) rfl ?_
      exact ⟨⟨_, rfl⟩, HO.out, HG.out⟩
theorem f116_any (l : List Weigh) (g n c base : Nat) (w : World) (hn : n = l.length) (hn0 : 0 < n) (hn20 : n < 20) (ho : Own encW 65 4 w base (.slice (some ⟨g, 0, none⟩) n c) l) :
    Calls Tryd.prog 116 #[.slice (some ⟨g, 0, none⟩) n c, .func (.func 117) #[] #[]] w fun e w' => (∃ v, e = .returned v) ∧ Own encW 65 4 w' base (.slice (some ⟨g, 0, none⟩) n c) (sortW l n) ∧ w.grownBy w' (some g) := by
  have HI := Lib.hid (f147_any l g n c base w hn hn0 hn20 ho)
  clear ho hn
  go_enter Tryd.func116, Tryd.ntmps116
  go_wp2_with fail
  refine HI.out.mono ?_
  rintro e w2 ⟨⟨v, rfl⟩, ho, hg⟩
  have HO := Lib.hid ho; have HG := Lib.hid hg
  clear ho hg HI
  go_wp2
  refine bodyPost_end (results_none rfl _ _ _) rfl ?_
  exact ⟨⟨_, rfl⟩, HO.out, HG.out⟩
end Go.Proofs.YtdlipbobfgdleaaDoor
/- core.Put and core.Weighed. -/
namespace Go.Proofs.YtdlipbobfgdleaaDoor
open Go.RowKit Go.Shelf Go.Lib
set_option maxRecDepth 100000
set_option linter.unusedSimpArgs false

def noB : Bale := ⟨0, 0, ⟨0, 0⟩, [], []⟩
theorem TwinV.no (base : Nat) (W : World) : TwinV noB base (.agg #[.int .i64 0, .int .i64 0, .int .i64 0, .int .i64 0, .slice none 0 0, .slice none 0 0]) W := ⟨_, _, rfl, Own.nil _ _, Own.nil _ _⟩
theorem own_set6 {α : Type} {enc : α → List Value} {sz base g : Nat} {e : TypeId} {w : World} {v : Value} {l : List α} (h : Own enc e sz w base v l) (hg : g < base) (y0 y1 y2 y3 y4 y5 : Value) : Own enc e sz (set6 w g y0 y1 y2 y3 y4 y5) base v l :=
  own_set (own_set (own_set (own_set (own_set (own_set h hg) hg) hg) hg) hg) hg
theorem ext_set6 {base g : Nat} {a w : World} (h : Below base a w) (hg : base ≤ g) (y0 y1 y2 y3 y4 y5 : Value) : Below base a (set6 w g y0 y1 y2 y3 y4 y5) :=
  (((((h.setCell hg y0).setCell hg y1).setCell hg y2).setCell hg y3).setCell hg y4).setCell hg y5
--DD
/-- A bale with a draw more. -/
def withD (b : Bale) (x : Draw) : Bale := ⟨b.id, b.layers, b.dry, sortD (b.draws ++ [x]) (b.draws.length + 1), b.weighs⟩
def putE (b : Bale) (x : Draw) : Int := if valid b then (if b.draws.length = 10 then 9 else if valid (withD b x) then 0 else 33) else 30
def putB (b : Bale) (x : Draw) : Bale := if putE b x = 0 then withD b x else noB

set_option maxHeartbeats 2000000 in
theorem f48_any (b : Bale) (x : Draw) (dv wv : Value) (w : World) (hT : Tab w) (hd : SlD w dv b.draws) (hw : SlW w wv b.weighs) :
    Calls Tryd.prog 48 #[valB b dv wv, valD x] w fun e w' => (∃ v, e = .returned (.tuple #[v, .int .i64 (putE b x)]) ∧ TwinV (putB b x) w.heap.size v w') ∧ Ext w w' := by
  have HT := Lib.hid hT
  have HD := Lib.hid hd
  have HW := Lib.hid hw
  obtain ⟨A, n, cp, rfl, hn, hlc, hcm⟩ := hd.form
  obtain ⟨A2, n2, cp2, rfl, hn2, hlc2, hcm2⟩ := hw.form
  clear hd hw hT
  dsimp only [valD]
  go_enter Tryd.func48, Tryd.ntmps48
  go_wp2_with fail
  generalize hw3 : (((w.alloc (.cells #[.int .i64 b.id, .int .i64 b.layers, .int .i64 b.dry.lo, .int .i64 b.dry.hi, .slice A n cp, .slice A2 n2 cp2] 27)).alloc (.cells #[.int .i64 x.number, .int .i64 x.layer, .int .i64 x.grade.lo, .int .i64 x.grade.hi] 63)).alloc (.cells #[.int .i64 0, .int .i64 0, .int .i64 0, .int .i64 0, .slice none 0 0, .slice none 0 0] 27)) = w3
  have HE3 := Lib.hid (show Ext w w3 from hw3 ▸ ((Ext.al _ _).alloc _).alloc _)
  have HZ3 := Lib.hid (show w3.heap.size = w.heap.size + 3 by rw [← hw3]; simp)
  have HB0 := Lib.hid (show Blk w3 w.heap.size 27 #[.int .i64 b.id, .int .i64 b.layers, .int .i64 b.dry.lo, .int .i64 b.dry.hi, .slice A n cp, .slice A2 n2 cp2] from hw3 ▸ ((Blk.new _ _ _).alloc _).alloc _)
  have HB1 := Lib.hid (show Blk w3 (w.heap.size + 1) 63 #[.int .i64 x.number, .int .i64 x.layer, .int .i64 x.grade.lo, .int .i64 x.grade.hi] from hw3 ▸ (Blk.at_ (by simp)).alloc _)
  have HB2 := Lib.hid (show Blk w3 (w.heap.size + 1 + 1) 27 #[.int .i64 0, .int .i64 0, .int .i64 0, .int .i64 0, .slice none 0 0, .slice none 0 0] from hw3 ▸ Blk.at_ (by simp))
  clear hw3
  refine (check_any b _ _ _ (HT.out.ext HE3.out) (HD.out.ext HE3.out) (HW.out.ext HE3.out)).mono ?_
  rintro e w4 ⟨rfl, hE4⟩
  have HE4 := Lib.hid (HE3.out.trans hE4)
  have HC0 := Lib.hid (HB0.out.ext hE4); have HC1 := Lib.hid (HB1.out.ext hE4); have HC2 := Lib.hid (HB2.out.ext hE4)
  have hz4 : w3.heap.size ≤ w4.heap.size := hE4.size
  have t0 := HC2.out.cell 0
  have t1 := HC2.out.cell 1
  have t2 := HC2.out.cell 2
  have t3 := HC2.out.cell 3
  have t4 := HC2.out.cell 4
  have t5 := HC2.out.cell 5
  have tl := HC2.out.lt
  have tf := HC2.out.frozen
  have x0 := HC0.out.cell 0
  have x1 := HC0.out.cell 1
  have x2 := HC0.out.cell 2
  have x3 := HC0.out.cell 3
  have x4 := HC0.out.cell 4
  have x5 := HC0.out.cell 5
  have xl := HC0.out.lt
  simp at t0 t1 t2 t3 t4 t5 x0 x1 x2 x3 x4 x5
  clear hE4 HB0 HB1 HB2
  cases hv : valid b with
  | false =>
    have HV := Lib.hid (show putE b x = 30 by unfold putE; rw [hv]; rfl)
    have HVB := Lib.hid (show putB b x = noB by unfold putB; rw [HV.out]; rfl)
    clear hv
    dsimp only [errB]
    go_wp2
    refine ret_set6 HC2.out fun W' ⟨b0, b1, b2, b3, b4, b5⟩ hW => ?_
    refine bodyPost_ret (v := .tuple #[.agg #[.int .i64 0, .int .i64 0, .int .i64 0, .int .i64 0, .slice none 0 0, .slice none 0 0], .int .i64 30]) (by simp [results, Tryd.results48, go_sem, b0, b1, b2, b3, b4, b5]) rfl ?_
    exact ⟨⟨_, by rw [HV.out], by rw [HVB.out]; exact TwinV.no _ _⟩, ext_grown HE4.out hW (by omega)⟩
  | true =>
    have HV := Lib.hid hv
    have HBD := Lib.hid (valid_bds hv)
    clear hv
    by_cases h10 : n = 10
    · have HVE := Lib.hid (show putE b x = 9 by unfold putE; rw [HV.out, ← hn.out, h10]; rfl)
      have HVB := Lib.hid (show putB b x = noB by unfold putB; rw [HVE.out]; rfl)
      subst h10
      dsimp only [errB]
      go_wp2
      refine ret_set6 HC2.out fun W' ⟨b0, b1, b2, b3, b4, b5⟩ hW => ?_
      refine bodyPost_ret (v := .tuple #[.agg #[.int .i64 0, .int .i64 0, .int .i64 0, .int .i64 0, .slice none 0 0, .slice none 0 0], .int .i64 9]) (by simp [results, Tryd.results48, go_sem, b0, b1, b2, b3, b4, b5]) rfl ?_
      exact ⟨⟨_, by rw [HVE.out], by rw [HVB.out]; exact TwinV.no _ _⟩, ext_grown HE4.out hW (by omega)⟩
    · have h10z : ¬ ((n : Int) = 10) := by omega
      dsimp only [errB]
      go_wp2_with fail
      refine (copied_any b _ _ _ (HD.out.ext HE4.out) (HW.out.ext HE4.out) (by have := HBD.out.nd; omega) (by have := HBD.out.nw; omega)).mono ?_
      rintro e w5 ⟨⟨v, rfl, dv, wv, rfl, o1, o2⟩, hE5⟩
      obtain ⟨Ad, nd, cd, rfl, -, -, -⟩ := (show SlD w5 dv b.draws from o1.sl (fun _ => rfl)).form
      obtain ⟨Aw, nw, cw, rfl, -, -, -⟩ := (show SlW w5 wv b.weighs from o2.sl (fun _ => rfl)).form
      have O1 := Lib.hid o1; have O2 := Lib.hid o2; have HE5 := Lib.hid hE5
      have HD0 := Lib.hid (HC0.out.ext hE5); have HD1 := Lib.hid (HC1.out.ext hE5); have HD2 := Lib.hid (HC2.out.ext hE5)
      have HZ4 := Lib.hid hz4
      clear o1 o2 hE5 HC0 HC1 HC2 x0 x1 x2 x3 x4 x5 xl t0 t1 t2 t3 t4 t5 tl tf hz4
      have x0 := HD0.out.cell 0
      have x1 := HD0.out.cell 1
      have x2 := HD0.out.cell 2
      have x3 := HD0.out.cell 3
      have x4 := HD0.out.cell 4
      have x5 := HD0.out.cell 5
      have xl := HD0.out.lt
      have xf := HD0.out.frozen
      simp at x0 x1 x2 x3 x4 x5
      have y0 := HD1.out.cell 0
      have y1 := HD1.out.cell 1
      have y2 := HD1.out.cell 2
      have y3 := HD1.out.cell 3
      have yl := HD1.out.lt
      simp at y0 y1 y2 y3
      have hz5 := HE5.out.size
      have hz3 := HZ3.out
      have hz4 := HZ4.out
      have HH := Lib.hid (show w.heap.size + 3 ≤ w4.heap.size ∧ w4.heap.size ≤ w5.heap.size by omega)
      clear hz5 hz3 hz4
      dsimp only [valB]
      go_wp2_with (at_builtin; refine wpList_app encD 24 63 4 _ 32 Tryd.underlying24 info63x rfl (by decide) (by decide) (fun _ => rfl) encD_1 rfl (.tmp 21) (.tmp 23) rfl w4.heap.size _ b.draws rfl ((own_set6 O1.out (by have := HH.out; omega) _ _ _ _ _ _).alloc _) w5.heap.size 1 x rfl (cells4 (by simp [go_sem]) (by simp [go_sem]) (by simp [go_sem]) (by simp [go_sem])) (by have := HBD.out.nd; omega) (by have := HH.out; simp; omega) ?_)
      intro g cap w6 hown hg2 hbel hgr
      have P1 := Lib.hid hown
      have P2 := Lib.hid (own_apart ((own_set6 O2.out (by have := HH.out; omega) _ _ _ _ _ _).alloc _) ((own_set6 O1.out (by have := HH.out; omega) _ _ _ _ _ _).alloc _) (by decide) hgr)
      have HF0 := Lib.hid (((HD0.out.set6 _ _ _ _ _ _).alloc _).below hbel (by have := HH.out; omega))
      have HF2 := Lib.hid ((((HD2.out.grown (grown_set (grown_set (grown_set (grown_set (grown_set (grown_set (World.grownBy.refl _ (some w.heap.size)) (p := ⟨w.heap.size, 0, none⟩) (.inl rfl) _) (p := ⟨w.heap.size, 1, none⟩) (.inl rfl) _) (p := ⟨w.heap.size, 2, none⟩) (.inl rfl) _) (p := ⟨w.heap.size, 3, none⟩) (.inl rfl) _) (p := ⟨w.heap.size, 4, none⟩) (.inl rfl) _) (p := ⟨w.heap.size, 5, none⟩) (.inl rfl) _) (by intro e; injection e with e; omega))).alloc _).below hbel (by have := HH.out; omega))
      have E6 := Lib.hid (show Ext w w6 from ((ext_set6 (HE4.out.trans HE5.out) (Nat.le_refl _) _ _ _ _ _ _).alloc (by have := HH.out; simp; omega) _).trans (Below.mono hbel (by have := HH.out; omega)))
      have hs6 := hbel.size
      simp at hs6
      have HG := Lib.hid (show w.heap.size + 3 ≤ w4.heap.size ∧ w4.heap.size ≤ g ∧ w4.heap.size ≤ w6.heap.size by have := HH.out; omega)
      clear hown hg2 hbel hgr hs6 HH O1 O2 HD0 HD1 HD2 x0 x1 x2 x3 x4 x5 xl xf y0 y1 y2 y3 yl
      have x0 := HF0.out.cell 0
      have x1 := HF0.out.cell 1
      have x2 := HF0.out.cell 2
      have x3 := HF0.out.cell 3
      have x4 := HF0.out.cell 4
      have x5 := HF0.out.cell 5
      have xl := HF0.out.lt
      have xf := HF0.out.frozen
      simp at x0 x1 x2 x3 x4 x5
      go_wp2_with fail
      generalize hw7 : w6.setCell ⟨w.heap.size, 4, none⟩ _ = w7
      have HK7 := Lib.hid (show Blk w7 w.heap.size 27 #[.int .i64 b.id, .int .i64 b.layers, .int .i64 b.dry.lo, .int .i64 b.dry.hi, .slice (some ⟨g, 0, none⟩) (b.draws.length + 1) cap, .slice Aw nw cw] from hw7 ▸ (by have := HF0.out.set_ 4 (.slice (some ⟨g, 0, none⟩) (b.draws.length + 1) cap); simpa using this))
      have HG2 := Lib.hid (show Blk w7 (w.heap.size + 1 + 1) 27 _ from hw7 ▸ HF2.out.far (by dsimp only; omega) _)
      have E7 := Lib.hid (show Ext w w7 from hw7 ▸ E6.out.setCell (Nat.le_refl _) _)
      have R1 := Lib.hid (show Own encD 63 4 w7 w4.heap.size (.slice (some ⟨g, 0, none⟩) (b.draws.length + 1) cap) _ from hw7 ▸ own_set P1.out (by have := HG.out; omega))
      have R2 := Lib.hid (show Own encW 65 4 w7 w4.heap.size (.slice Aw nw cw) b.weighs from hw7 ▸ own_set P2.out (by have := HG.out; omega))
      have hs7 : w7.heap.size = w6.heap.size := by rw [← hw7]; simp [World.setCell]
      have HG7 := Lib.hid (show w.heap.size + 3 ≤ w4.heap.size ∧ w4.heap.size ≤ g ∧ w4.heap.size ≤ w7.heap.size by have := HG.out; omega)
      clear hw7 hs7 HG P1 P2 HF0 HF2 E6 x0 x1 x2 x3 x4 x5 xl xf
      refine (f113_any (b.draws ++ [x]) g (b.draws.length + 1) cap w4.heap.size w7 (by simp) (by omega) (by have := HBD.out.nd; omega) R1.out).mono ?_
      rintro e w8 ⟨⟨v, rfl⟩, q1, G8⟩
      have HQ1 := Lib.hid (show Own encD 63 4 w8 w4.heap.size (.slice (some ⟨g, 0, none⟩) (b.draws.length + 1) cap) (withD b x).draws from q1)
      have HQ2 := Lib.hid (show Own encW 65 4 w8 w4.heap.size (.slice Aw nw cw) (withD b x).weighs from own_apart R2.out R1.out (by decide) G8)
      have hs8 := G8.size
      have HK8 := Lib.hid (HK7.out.grown G8 (by intro e; injection e with e; have := HG7.out; omega)); have HG8 := Lib.hid (HG2.out.grown G8 (by intro e; injection e with e; have := HG7.out; omega))
      have E8 := Lib.hid (show Ext w w8 from ext_grown E7.out G8 (by have := HG7.out; omega))
      have HS8 := Lib.hid (show w.heap.size + 3 ≤ w4.heap.size ∧ w4.heap.size ≤ w8.heap.size by have := HG7.out; omega)
      clear q1 G8 hs8 HK7 HG2 E7 R1 R2 HG7
      have x0 := HK8.out.cell 0
      have x1 := HK8.out.cell 1
      have x2 := HK8.out.cell 2
      have x3 := HK8.out.cell 3
      have x4 := HK8.out.cell 4
      have x5 := HK8.out.cell 5
      have xl := HK8.out.lt
      simp at x0 x1 x2 x3 x4 x5
      go_wp2_with fail
      refine (check_any (withD b x) _ _ _ (HT.out.ext E8.out) (Own.sl (fun _ => rfl) HQ1.out) (Own.sl (fun _ => rfl) HQ2.out)).mono ?_
      rintro e w9 ⟨rfl, hE9⟩
      have HE9 := Lib.hid hE9
      have HK9 := Lib.hid (HK8.out.ext hE9); have HG9 := Lib.hid (HG8.out.ext hE9)
      have hz9 : w8.heap.size ≤ w9.heap.size := hE9.size
      clear hE9 x0 x1 x2 x3 x4 x5 xl HK8 HG8
      have x0 := HK9.out.cell 0
      have x1 := HK9.out.cell 1
      have x2 := HK9.out.cell 2
      have x3 := HK9.out.cell 3
      have x4 := HK9.out.cell 4
      have x5 := HK9.out.cell 5
      have xl := HK9.out.lt
      have t0 := HG9.out.cell 0
      have t1 := HG9.out.cell 1
      have t2 := HG9.out.cell 2
      have t3 := HG9.out.cell 3
      have t4 := HG9.out.cell 4
      have t5 := HG9.out.cell 5
      have tl := HG9.out.lt
      have tf := HG9.out.frozen
      simp at x0 x1 x2 x3 x4 x5 t0 t1 t2 t3 t4 t5
      cases hv : valid (withD b x) with
      | false =>
        have HVE := Lib.hid (show putE b x = 33 by unfold putE; rw [HV.out, if_pos rfl, if_neg (by have := hn.out; omega), hv]; rfl)
        have HVB := Lib.hid (show putB b x = noB by unfold putB; rw [HVE.out]; rfl)
        clear hv
        dsimp only [errB]
        go_wp2
        refine ret_set6 HG9.out fun W' ⟨b0, b1, b2, b3, b4, b5⟩ hW => ?_
        refine bodyPost_ret (v := .tuple #[.agg #[.int .i64 0, .int .i64 0, .int .i64 0, .int .i64 0, .slice none 0 0, .slice none 0 0], .int .i64 33]) (by simp [results, Tryd.results48, go_sem, b0, b1, b2, b3, b4, b5]) rfl ?_
        exact ⟨⟨_, by rw [HVE.out], by rw [HVB.out]; exact TwinV.no _ _⟩, ext_grown (E8.out.trans HE9.out) hW (by omega)⟩
      | true =>
        have HVE := Lib.hid (show putE b x = 0 by unfold putE; rw [HV.out, if_pos rfl, if_neg (by have := hn.out; omega), hv]; rfl)
        have HVB := Lib.hid (show putB b x = withD b x by unfold putB; rw [HVE.out]; rfl)
        clear hv
        dsimp only [errB]
        go_wp2
        refine ret_set6 HG9.out fun W' ⟨b0, b1, b2, b3, b4, b5⟩ hW => ?_
        refine bodyPost_ret (v := .tuple #[valB (withD b x) (.slice (some ⟨g, 0, none⟩) (b.draws.length + 1) cap) (.slice Aw nw cw), .int .i64 0]) (by simp [results, Tryd.results48, go_sem, b0, b1, b2, b3, b4, b5, withD]) rfl ?_
        have hs := HS8.out
        refine ⟨⟨_, by rw [HVE.out], ?_⟩, ext_grown (E8.out.trans HE9.out) hW (by omega)⟩
        rw [HVB.out]
        exact ⟨_, _, rfl, own_mono (own_kept (HQ1.out.ext HE9.out) hW (by omega)) (by omega), own_mono (own_kept (HQ2.out.ext HE9.out) hW (by omega)) (by omega)⟩
--WW
/-- A bale with a weighing more. -/
def withX (b : Bale) (x : Weigh) : Bale := ⟨b.id, b.layers, b.dry, b.draws, sortW (b.weighs ++ [x]) (b.weighs.length + 1)⟩
def liftE (b : Bale) (x : Weigh) : Int := if valid b then (if b.weighs.length = 8 then 9 else if valid (withX b x) then 0 else 34) else 30
def liftB (b : Bale) (x : Weigh) : Bale := if liftE b x = 0 then withX b x else noB

set_option maxHeartbeats 2000000 in
theorem f50_any (b : Bale) (x : Weigh) (dv wv : Value) (w : World) (hT : Tab w) (hd : SlD w dv b.draws) (hw : SlW w wv b.weighs) :
    Calls Tryd.prog 50 #[valB b dv wv, valW x] w fun e w' => (∃ v, e = .returned (.tuple #[v, .int .i64 (liftE b x)]) ∧ TwinV (liftB b x) w.heap.size v w') ∧ Ext w w' := by
  have HT := Lib.hid hT
  have HD := Lib.hid hd
  have HW := Lib.hid hw
  obtain ⟨A, n, cp, rfl, hn, hlc, hcm⟩ := hd.form
  obtain ⟨A2, n2, cp2, rfl, hn2, hlc2, hcm2⟩ := hw.form
  clear hd hw hT
  dsimp only [valW]
  go_enter Tryd.func50, Tryd.ntmps50
  go_wp2_with fail
  generalize hw3 : (((w.alloc (.cells #[.int .i64 b.id, .int .i64 b.layers, .int .i64 b.dry.lo, .int .i64 b.dry.hi, .slice A n cp, .slice A2 n2 cp2] 27)).alloc (.cells #[.int .i64 x.number, .int .i64 x.pounds, .int .i64 x.damp.lo, .int .i64 x.damp.hi] 65)).alloc (.cells #[.int .i64 0, .int .i64 0, .int .i64 0, .int .i64 0, .slice none 0 0, .slice none 0 0] 27)) = w3
  have HE3 := Lib.hid (show Ext w w3 from hw3 ▸ ((Ext.al _ _).alloc _).alloc _)
  have HZ3 := Lib.hid (show w3.heap.size = w.heap.size + 3 by rw [← hw3]; simp)
  have HB0 := Lib.hid (show Blk w3 w.heap.size 27 #[.int .i64 b.id, .int .i64 b.layers, .int .i64 b.dry.lo, .int .i64 b.dry.hi, .slice A n cp, .slice A2 n2 cp2] from hw3 ▸ ((Blk.new _ _ _).alloc _).alloc _)
  have HB1 := Lib.hid (show Blk w3 (w.heap.size + 1) 65 #[.int .i64 x.number, .int .i64 x.pounds, .int .i64 x.damp.lo, .int .i64 x.damp.hi] from hw3 ▸ (Blk.at_ (by simp)).alloc _)
  have HB2 := Lib.hid (show Blk w3 (w.heap.size + 1 + 1) 27 #[.int .i64 0, .int .i64 0, .int .i64 0, .int .i64 0, .slice none 0 0, .slice none 0 0] from hw3 ▸ Blk.at_ (by simp))
  clear hw3
  refine (check_any b _ _ _ (HT.out.ext HE3.out) (HD.out.ext HE3.out) (HW.out.ext HE3.out)).mono ?_
  rintro e w4 ⟨rfl, hE4⟩
  have HE4 := Lib.hid (HE3.out.trans hE4)
  have HC0 := Lib.hid (HB0.out.ext hE4); have HC1 := Lib.hid (HB1.out.ext hE4); have HC2 := Lib.hid (HB2.out.ext hE4)
  have hz4 : w3.heap.size ≤ w4.heap.size := hE4.size
  have t0 := HC2.out.cell 0
  have t1 := HC2.out.cell 1
  have t2 := HC2.out.cell 2
  have t3 := HC2.out.cell 3
  have t4 := HC2.out.cell 4
  have t5 := HC2.out.cell 5
  have tl := HC2.out.lt
  have tf := HC2.out.frozen
  have x0 := HC0.out.cell 0
  have x1 := HC0.out.cell 1
  have x2 := HC0.out.cell 2
  have x3 := HC0.out.cell 3
  have x4 := HC0.out.cell 4
  have x5 := HC0.out.cell 5
  have xl := HC0.out.lt
  simp at t0 t1 t2 t3 t4 t5 x0 x1 x2 x3 x4 x5
  clear hE4 HB0 HB1 HB2
  cases hv : valid b with
  | false =>
    have HV := Lib.hid (show liftE b x = 30 by unfold liftE; rw [hv]; rfl)
    have HVB := Lib.hid (show liftB b x = noB by unfold liftB; rw [HV.out]; rfl)
    clear hv
    dsimp only [errB]
    go_wp2
    refine ret_set6 HC2.out fun W' ⟨b0, b1, b2, b3, b4, b5⟩ hW => ?_
    refine bodyPost_ret (v := .tuple #[.agg #[.int .i64 0, .int .i64 0, .int .i64 0, .int .i64 0, .slice none 0 0, .slice none 0 0], .int .i64 30]) (by simp [results, Tryd.results50, go_sem, b0, b1, b2, b3, b4, b5]) rfl ?_
    exact ⟨⟨_, by rw [HV.out], by rw [HVB.out]; exact TwinV.no _ _⟩, ext_grown HE4.out hW (by omega)⟩
  | true =>
    have HV := Lib.hid hv
    have HBD := Lib.hid (valid_bds hv)
    clear hv
    by_cases h10 : n2 = 8
    · have HVE := Lib.hid (show liftE b x = 9 by unfold liftE; rw [HV.out, ← hn2.out, h10]; rfl)
      have HVB := Lib.hid (show liftB b x = noB by unfold liftB; rw [HVE.out]; rfl)
      subst h10
      dsimp only [errB]
      go_wp2
      refine ret_set6 HC2.out fun W' ⟨b0, b1, b2, b3, b4, b5⟩ hW => ?_
      refine bodyPost_ret (v := .tuple #[.agg #[.int .i64 0, .int .i64 0, .int .i64 0, .int .i64 0, .slice none 0 0, .slice none 0 0], .int .i64 9]) (by simp [results, Tryd.results50, go_sem, b0, b1, b2, b3, b4, b5]) rfl ?_
      exact ⟨⟨_, by rw [HVE.out], by rw [HVB.out]; exact TwinV.no _ _⟩, ext_grown HE4.out hW (by omega)⟩
    · have h10z : ¬ ((n2 : Int) = 8) := by omega
      dsimp only [errB]
      go_wp2_with fail
      refine (copied_any b _ _ _ (HD.out.ext HE4.out) (HW.out.ext HE4.out) (by have := HBD.out.nd; omega) (by have := HBD.out.nw; omega)).mono ?_
      rintro e w5 ⟨⟨v, rfl, dv, wv, rfl, o1, o2⟩, hE5⟩
      obtain ⟨Ad, nd, cd, rfl, -, -, -⟩ := (show SlD w5 dv b.draws from o1.sl (fun _ => rfl)).form
      obtain ⟨Aw, nw, cw, rfl, -, -, -⟩ := (show SlW w5 wv b.weighs from o2.sl (fun _ => rfl)).form
      have O1 := Lib.hid o1; have O2 := Lib.hid o2; have HE5 := Lib.hid hE5
      have HD0 := Lib.hid (HC0.out.ext hE5); have HD1 := Lib.hid (HC1.out.ext hE5); have HD2 := Lib.hid (HC2.out.ext hE5)
      have HZ4 := Lib.hid hz4
      clear o1 o2 hE5 HC0 HC1 HC2 x0 x1 x2 x3 x4 x5 xl t0 t1 t2 t3 t4 t5 tl tf hz4
      have x0 := HD0.out.cell 0
      have x1 := HD0.out.cell 1
      have x2 := HD0.out.cell 2
      have x3 := HD0.out.cell 3
      have x4 := HD0.out.cell 4
      have x5 := HD0.out.cell 5
      have xl := HD0.out.lt
      have xf := HD0.out.frozen
      simp at x0 x1 x2 x3 x4 x5
      have y0 := HD1.out.cell 0
      have y1 := HD1.out.cell 1
      have y2 := HD1.out.cell 2
      have y3 := HD1.out.cell 3
      have yl := HD1.out.lt
      simp at y0 y1 y2 y3
      have hz5 := HE5.out.size
      have hz3 := HZ3.out
      have hz4 := HZ4.out
      have HH := Lib.hid (show w.heap.size + 3 ≤ w4.heap.size ∧ w4.heap.size ≤ w5.heap.size by omega)
      clear hz5 hz3 hz4
      dsimp only [valB]
      go_wp2_with (at_builtin; refine wpList_app encW 25 65 4 _ 32 Tryd.underlying25 info65x rfl (by decide) (by decide) (fun _ => rfl) encW_1 rfl (.tmp 21) (.tmp 23) rfl w4.heap.size _ b.weighs rfl ((own_set6 O2.out (by have := HH.out; omega) _ _ _ _ _ _).alloc _) w5.heap.size 1 x rfl (cells4 (by simp [go_sem]) (by simp [go_sem]) (by simp [go_sem]) (by simp [go_sem])) (by have := HBD.out.nw; omega) (by have := HH.out; simp; omega) ?_)
      intro g cap w6 hown hg2 hbel hgr
      have P1 := Lib.hid hown
      have P2 := Lib.hid (own_apart ((own_set6 O1.out (by have := HH.out; omega) _ _ _ _ _ _).alloc _) ((own_set6 O2.out (by have := HH.out; omega) _ _ _ _ _ _).alloc _) (by decide) hgr)
      have HF0 := Lib.hid (((HD0.out.set6 _ _ _ _ _ _).alloc _).below hbel (by have := HH.out; omega))
      have HF2 := Lib.hid ((((HD2.out.grown (grown_set (grown_set (grown_set (grown_set (grown_set (grown_set (World.grownBy.refl _ (some w.heap.size)) (p := ⟨w.heap.size, 0, none⟩) (.inl rfl) _) (p := ⟨w.heap.size, 1, none⟩) (.inl rfl) _) (p := ⟨w.heap.size, 2, none⟩) (.inl rfl) _) (p := ⟨w.heap.size, 3, none⟩) (.inl rfl) _) (p := ⟨w.heap.size, 4, none⟩) (.inl rfl) _) (p := ⟨w.heap.size, 5, none⟩) (.inl rfl) _) (by intro e; injection e with e; omega))).alloc _).below hbel (by have := HH.out; omega))
      have E6 := Lib.hid (show Ext w w6 from ((ext_set6 (HE4.out.trans HE5.out) (Nat.le_refl _) _ _ _ _ _ _).alloc (by have := HH.out; simp; omega) _).trans (Below.mono hbel (by have := HH.out; omega)))
      have hs6 := hbel.size
      simp at hs6
      have HG := Lib.hid (show w.heap.size + 3 ≤ w4.heap.size ∧ w4.heap.size ≤ g ∧ w4.heap.size ≤ w6.heap.size by have := HH.out; omega)
      clear hown hg2 hbel hgr hs6 HH O1 O2 HD0 HD1 HD2 x0 x1 x2 x3 x4 x5 xl xf y0 y1 y2 y3 yl
      have x0 := HF0.out.cell 0
      have x1 := HF0.out.cell 1
      have x2 := HF0.out.cell 2
      have x3 := HF0.out.cell 3
      have x4 := HF0.out.cell 4
      have x5 := HF0.out.cell 5
      have xl := HF0.out.lt
      have xf := HF0.out.frozen
      simp at x0 x1 x2 x3 x4 x5
      go_wp2_with fail
      generalize hw7 : w6.setCell ⟨w.heap.size, 5, none⟩ _ = w7
      have HK7 := Lib.hid (show Blk w7 w.heap.size 27 #[.int .i64 b.id, .int .i64 b.layers, .int .i64 b.dry.lo, .int .i64 b.dry.hi, .slice Ad nd cd, .slice (some ⟨g, 0, none⟩) (b.weighs.length + 1) cap] from hw7 ▸ (by have := HF0.out.set_ 5 (.slice (some ⟨g, 0, none⟩) (b.weighs.length + 1) cap); simpa using this))
      have HG2 := Lib.hid (show Blk w7 (w.heap.size + 1 + 1) 27 _ from hw7 ▸ HF2.out.far (by dsimp only; omega) _)
      have E7 := Lib.hid (show Ext w w7 from hw7 ▸ E6.out.setCell (Nat.le_refl _) _)
      have R1 := Lib.hid (show Own encW 65 4 w7 w4.heap.size (.slice (some ⟨g, 0, none⟩) (b.weighs.length + 1) cap) _ from hw7 ▸ own_set P1.out (by have := HG.out; omega))
      have R2 := Lib.hid (show Own encD 63 4 w7 w4.heap.size (.slice Ad nd cd) b.draws from hw7 ▸ own_set P2.out (by have := HG.out; omega))
      have hs7 : w7.heap.size = w6.heap.size := by rw [← hw7]; simp [World.setCell]
      have HG7 := Lib.hid (show w.heap.size + 3 ≤ w4.heap.size ∧ w4.heap.size ≤ g ∧ w4.heap.size ≤ w7.heap.size by have := HG.out; omega)
      clear hw7 hs7 HG P1 P2 HF0 HF2 E6 x0 x1 x2 x3 x4 x5 xl xf
      refine (f116_any (b.weighs ++ [x]) g (b.weighs.length + 1) cap w4.heap.size w7 (by simp) (by omega) (by have := HBD.out.nw; omega) R1.out).mono ?_
      rintro e w8 ⟨⟨v, rfl⟩, q1, G8⟩
      have HQ1 := Lib.hid (show Own encW 65 4 w8 w4.heap.size (.slice (some ⟨g, 0, none⟩) (b.weighs.length + 1) cap) (withX b x).weighs from q1)
      have HQ2 := Lib.hid (show Own encD 63 4 w8 w4.heap.size (.slice Ad nd cd) (withX b x).draws from own_apart R2.out R1.out (by decide) G8)
      have hs8 := G8.size
      have HK8 := Lib.hid (HK7.out.grown G8 (by intro e; injection e with e; have := HG7.out; omega)); have HG8 := Lib.hid (HG2.out.grown G8 (by intro e; injection e with e; have := HG7.out; omega))
      have E8 := Lib.hid (show Ext w w8 from ext_grown E7.out G8 (by have := HG7.out; omega))
      have HS8 := Lib.hid (show w.heap.size + 3 ≤ w4.heap.size ∧ w4.heap.size ≤ w8.heap.size by have := HG7.out; omega)
      clear q1 G8 hs8 HK7 HG2 E7 R1 R2 HG7
      have x0 := HK8.out.cell 0
      have x1 := HK8.out.cell 1
      have x2 := HK8.out.cell 2
      have x3 := HK8.out.cell 3
      have x4 := HK8.out.cell 4
      have x5 := HK8.out.cell 5
      have xl := HK8.out.lt
      simp at x0 x1 x2 x3 x4 x5
      go_wp2_with fail
      refine (check_any (withX b x) _ _ _ (HT.out.ext E8.out) (Own.sl (fun _ => rfl) HQ2.out) (Own.sl (fun _ => rfl) HQ1.out)).mono ?_
      rintro e w9 ⟨rfl, hE9⟩
      have HE9 := Lib.hid hE9
      have HK9 := Lib.hid (HK8.out.ext hE9); have HG9 := Lib.hid (HG8.out.ext hE9)
      have hz9 : w8.heap.size ≤ w9.heap.size := hE9.size
      clear hE9 x0 x1 x2 x3 x4 x5 xl HK8 HG8
      have x0 := HK9.out.cell 0
      have x1 := HK9.out.cell 1
      have x2 := HK9.out.cell 2
      have x3 := HK9.out.cell 3
      have x4 := HK9.out.cell 4
      have x5 := HK9.out.cell 5
      have xl := HK9.out.lt
      have t0 := HG9.out.cell 0
      have t1 := HG9.out.cell 1
      have t2 := HG9.out.cell 2
      have t3 := HG9.out.cell 3
      have t4 := HG9.out.cell 4
      have t5 := HG9.out.cell 5
      have tl := HG9.out.lt
      have tf := HG9.out.frozen
      simp at x0 x1 x2 x3 x4 x5 t0 t1 t2 t3 t4 t5
      cases hv : valid (withX b x) with
      | false =>
        have HVE := Lib.hid (show liftE b x = 34 by unfold liftE; rw [HV.out, if_pos rfl, if_neg (by have := hn2.out; omega), hv]; rfl)
        have HVB := Lib.hid (show liftB b x = noB by unfold liftB; rw [HVE.out]; rfl)
        clear hv
        dsimp only [errB]
        go_wp2
        refine ret_set6 HG9.out fun W' ⟨b0, b1, b2, b3, b4, b5⟩ hW => ?_
        refine bodyPost_ret (v := .tuple #[.agg #[.int .i64 0, .int .i64 0, .int .i64 0, .int .i64 0, .slice none 0 0, .slice none 0 0], .int .i64 34]) (by simp [results, Tryd.results50, go_sem, b0, b1, b2, b3, b4, b5]) rfl ?_
        exact ⟨⟨_, by rw [HVE.out], by rw [HVB.out]; exact TwinV.no _ _⟩, ext_grown (E8.out.trans HE9.out) hW (by omega)⟩
      | true =>
        have HVE := Lib.hid (show liftE b x = 0 by unfold liftE; rw [HV.out, if_pos rfl, if_neg (by have := hn2.out; omega), hv]; rfl)
        have HVB := Lib.hid (show liftB b x = withX b x by unfold liftB; rw [HVE.out]; rfl)
        clear hv
        dsimp only [errB]
        go_wp2
        refine ret_set6 HG9.out fun W' ⟨b0, b1, b2, b3, b4, b5⟩ hW => ?_
        refine bodyPost_ret (v := .tuple #[valB (withX b x) (.slice Ad nd cd) (.slice (some ⟨g, 0, none⟩) (b.weighs.length + 1) cap), .int .i64 0]) (by simp [results, Tryd.results50, go_sem, b0, b1, b2, b3, b4, b5, withX]) rfl ?_
        have hs := HS8.out
        refine ⟨⟨_, by rw [HVE.out], ?_⟩, ext_grown (E8.out.trans HE9.out) hW (by omega)⟩
        rw [HVB.out]
        exact ⟨_, _, rfl, own_mono (own_kept (HQ2.out.ext HE9.out) hW (by omega)) (by omega), own_mono (own_kept (HQ1.out.ext HE9.out) hW (by omega)) (by omega)⟩
end Go.Proofs.YtdlipbobfgdleaaDoor
/- append of a part of a list at its place: every slice of a beginning of the list keeps it. -/
namespace Go.Proofs.YtdlipbobfgdleaaDoor
open Go.RowKit Go.Shelf Go.Lib
set_option maxRecDepth 100000
set_option linter.unusedSimpArgs false

theorem take_over {β : Type} (cur X Z : List β) (h : X <+: Z ∨ Z <+: X) (hz : cur.take Z.length = Z) : (X ++ cur.drop X.length).take Z.length = Z := by
  rcases h with ⟨r, rfl⟩ | ⟨r, rfl⟩
  · have h2 : (cur.drop X.length).take r.length = r := by
      have : (cur.take (X ++ r).length).drop X.length = r := by rw [hz]; simp
      rw [List.drop_take] at this
      simpa using this
    rw [List.length_append, List.take_append, List.take_of_length_le (by omega), Nat.add_sub_cancel_left, h2]
  · simp
theorem flat_prefix {α β : Type} (enc : α → List β) {a b : List α} (h : a <+: b) : a.flatMap enc <+: b.flatMap enc := by
  obtain ⟨r, rfl⟩ := h
  rw [List.flatMap_append]
  exact List.prefix_append _ _

/-- A slice in new memory, without room if it is empty. -/
def NewF {α : Type} (enc : α → List Value) (sz : Nat) (e : TypeId) (base : Nat) (p : List α) (v : Value) (W : World) : Prop := Own enc e sz W base v p ∧ ∃ A c, v = .slice A p.length c ∧ (p.length = 0 → c = 0)
def RF {α : Type} (enc : α → List Value) (sz : Nat) (e : TypeId) (base : Nat) (F : List α) (y : α) (W W' : World) : Prop :=
  W.heap.size ≤ W'.heap.size ∧ (∀ z, z <+: F → ∀ v, Own enc e sz W base v z → Own enc e sz W' base v z) ∧ (∀ b, Blk W b e (enc y).toArray → Blk W' b e (enc y).toArray) ∧ ∀ b, Blk W b e #[] → Blk W' b e #[]
theorem RF.refl {α : Type} {enc : α → List Value} {sz : Nat} {e : TypeId} {base : Nat} {F : List α} {y : α} (W : World) : RF enc sz e base F y W W := ⟨Nat.le_refl _, fun _ _ _ h => h, fun _ h => h, fun _ h => h⟩
theorem RF.ext {α : Type} {enc : α → List Value} {sz : Nat} {e : TypeId} {base : Nat} {F : List α} {y : α} {W W' : World} (h : Ext W W') : RF enc sz e base F y W W' := ⟨h.size, fun _ _ _ k => k.ext h, fun _ k => k.ext h, fun _ k => k.ext h⟩

theorem run_appF {α : Type} {enc : α → List Value} {t ty e : TypeId} {sz : Nat} {z : Value} {bytes : Nat} (ht : Tryd.prog.underlying t = some (.slice e))
    (hinfo : (Tryd.prog.info? e).map (fun i => (i.zero, i.size, i.bytes)) = some (some z, sz, bytes)) (hzs : z.cells.size = sz) (hsz : 0 < sz) (hbytes : bytes ≤ 1000) (henc : ∀ x, (enc x).length = sz) (h1c : ∀ x, ∀ u ∈ enc x, u.oneCell' = true)
    {W : World} {base : Nat} {v x : Value} {F p m : List α} {y : α} (hv : NewF enc sz e base p v W) (hpm : p ++ m <+: F) (hF : F.length ≤ 1000) (hb : base ≤ W.heap.size) (hx : Sl enc sz W x m) :
    ∃ v' W', (Builtin.append_ #[t, t] ty #[v, x]).run Tryd.prog W = .ok v' W' ∧ NewF enc sz e base (p ++ m) v' W' ∧ RF enc sz e base F y W W' ∧ Below base W W' := by
  obtain ⟨i0, hi, hz0, hz1, hz2⟩ := info_parts hinfo
  obtain ⟨hown, A, c0, hv0, hc0⟩ := id hv
  have hpl := hpm.length_le
  rw [List.length_append] at hpl
  by_cases h0 : m.length = 0
  · have : m = [] := List.eq_nil_of_length_eq_zero h0
    subst this
    obtain ⟨A2, c2, rfl, _, _, _⟩ := hx
    obtain ⟨A3, n3, c3, e3, _, hlc, _⟩ := (Own.sl henc hown : Sl enc sz W v p).form
    have hrun := run_append_nothing (P := Tryd.prog) W t t ty e i0 ht hi A p.length c0 (by rw [hv0] at e3; injection e3 with _ e4 e5; omega) (.slice A2 0 c2)
      ⟨.inl ⟨e, ht⟩, fun _ => by simp [Builtin.lenOf], by cases A2 <;> simp [Builtin.firstCells, loadCells, loadCellsFrom], by cases A2 <;> simp [Builtin.firstCells, loadCells, loadCellsFrom], by simp, by simp⟩
    rw [← hv0] at hrun
    refine ⟨_, _, hrun, ?_, RF.refl _, Below.refl _ _⟩
    rw [List.append_nil]
    exact hv
  · obtain ⟨A2, c, rfl, hlc2, hcm2, hcell⟩ := id hx
    obtain ⟨b, off, rfl, hbb, _⟩ := hcell (by omega)
    clear hcell
    have hnews := Sl.flat henc hsz hx
    have hml := enc_len henc m
    have h1' : ∀ u ∈ m.flatMap enc, u.oneCell' = true := fun u hu => by
      obtain ⟨q, _, hq⟩ := List.mem_flatMap.1 hu
      exact h1c q u hq
    have hby : (p.length + m.length) * bytes ≤ 1000 * 1000 := Nat.mul_le_mul (by omega) hbytes
    obtain ⟨v', W', hr, h1, h2, _⟩ := run_append_own (P := Tryd.prog) W base t ty e i0 z sz bytes ht hi hz0 hz1 hz2 hzs hsz v p.length (p.flatMap enc) hown ⟨b, off, none⟩ m.length c (m.flatMap enc) hml hnews h1' (by unfold maxLen; omega) (by omega) hb
    have h1o : Own enc e sz W' base v' (p ++ m) := by unfold Own; rw [List.length_append, List.flatMap_append]; exact h1
    have hn' : NewF enc sz e base (p ++ m) v' W' := by
      obtain ⟨A4, n4, c4, e4, hn4, _, _⟩ := (Own.sl henc h1o : Sl enc sz W' v' (p ++ m)).form
      exact ⟨h1o, A4, c4, by rw [e4, hn4], fun h => by rw [List.length_append] at h; omega⟩
    refine ⟨v', W', hr, hn', ?_, (Below.refl base W).grown h2 hb (fun k hk => (World.ownsRow.lt hown k hk).1)⟩
    rcases id hown.2 with ⟨rfl, hp0⟩ | ⟨g, cap, cur, rfl, hg, hgg, hlc, hcm, hcs, htake⟩
    · have hE : Ext W W' := ⟨h2.os, h2.tape, h2.output, h2.size, fun i hi => h2.block i hi (by simp [Value.ownBlock])⟩
      exact RF.ext hE
    · have hpf := enc_len henc p
      by_cases hroom : p.length + m.length ≤ cap
      · have hl0 : p.length ≠ 0 := fun h => by
          injection hv0 with _ _ e3
          have := hc0 h
          omega
        have hmul : (p.length + m.length) * sz ≤ cap * sz := Nat.mul_le_mul_right _ hroom
        rw [Nat.add_mul] at hmul
        have hr2 := run_append_room (P := Tryd.prog) W t ty e i0 ht hi g p.length cap cur hgg ⟨b, off, none⟩ m.length c (m.flatMap enc) (by rw [hz1]; exact hml) hnews h1' (by exact hroom) (by rw [hz1, hcs, hml]; exact hmul)
        rw [hr] at hr2
        injection hr2 with hv' hW'
        rw [hz1, htake] at hW'
        have hX : ((p ++ m).flatMap enc).length = p.length * sz + (m.flatMap enc).length := by rw [List.flatMap_append, List.length_append, hpf]
        rw [← hX, ← List.flatMap_append] at hW'
        have hgW : W'.heap[g]? = some (.cells ((p ++ m).flatMap enc ++ cur.toList.drop ((p ++ m).flatMap enc).length).toArray e (0, 0)) := by
          rw [hW']; exact setRow_heap W g cur _ e _ hgg
        have hsz' : ((p ++ m).flatMap enc ++ cur.toList.drop ((p ++ m).flatMap enc).length).toArray.size = cap * sz := by
          simp only [List.size_toArray, List.length_append, List.length_drop, Array.length_toList, hcs]
          rw [hX, hml]; omega
        have hoth : ∀ k, k ≠ g → W'.heap[k]? = W.heap[k]? := fun k hk => by rw [hW']; exact setRow_other W g k _ hk
        have hne : ∀ b2 cs, Blk W b2 e cs → cs.size ≤ sz → b2 ≠ g := by
          intro b2 cs hB hs he
          subst he
          unfold Blk at hB
          rw [hgg] at hB
          injection hB with hB
          injection hB with e1 _ _
          rw [← e1, hcs] at hs
          have : cap ≤ 1 := Nat.le_of_mul_le_mul_right (by omega) hsz
          omega
        refine ⟨h2.size, fun z' hz v2 ho => ?_, fun b2 hB => (hoth b2 (hne b2 _ hB (by simp [henc]))).trans hB, fun b2 hB => (hoth b2 (hne b2 _ hB (by simp))).trans hB⟩
        rcases id ho.2 with ⟨rfl, hn⟩ | ⟨g2, cap2, cur2, rfl, hg2, hgg2, hlc2, hcm2, hcs2, ht2⟩
        · exact ⟨ho.1, .inl ⟨rfl, hn⟩⟩
        · refine ⟨ho.1, .inr ?_⟩
          by_cases he : g2 = g
          · subst he
            rw [hgg] at hgg2
            injection hgg2 with hgg2
            injection hgg2 with e1 _ _
            subst e1
            refine ⟨g2, cap2, _, rfl, hg2, hgW, hlc2, hcm2, by rw [hsz']; omega, ?_⟩
            have := take_over cur.toList ((p ++ m).flatMap enc) (z'.flatMap enc) ((List.prefix_or_prefix_of_prefix hpm hz).imp (flat_prefix enc) (flat_prefix enc)) (by rw [enc_len henc]; exact ht2)
            rw [enc_len henc z'] at this
            exact this
          · exact ⟨g2, cap2, cur2, rfl, hg2, (hoth g2 he).trans hgg2, hlc2, hcm2, by omega, ht2⟩
      · have holds : ∀ j u, (p.flatMap enc)[j]? = some u → W.cell? ((⟨g, 0, none⟩ : Addr).add j) = some u := World.ownsRow.cells hown (g := g) rfl
        have hr2 := run_append_grow (P := Tryd.prog) W t ty e i0 z ht hi hz0 ⟨g, 0, none⟩ p.length cap (p.flatMap enc) (by rw [hz1]; exact hpf) holds ⟨b, off, none⟩ m.length c (m.flatMap enc) (by rw [hz1]; exact hml) hnews (by omega) (by omega) (growslice_fits (by omega) (by rw [hz2]; omega))
        rw [hr] at hr2
        injection hr2 with hv' hW'
        subst hW'
        exact RF.ext ((Ext.refl W).drew.alloc _)
end Go.Proofs.YtdlipbobfgdleaaDoor
