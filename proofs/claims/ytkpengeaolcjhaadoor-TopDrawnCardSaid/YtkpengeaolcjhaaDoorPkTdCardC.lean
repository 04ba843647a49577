/- slices.SortStableFunc at draws and weighings, of at most twenty: insertion sort by their numbers. -/
import Derived.Test.YtkpengeaolcjhaaDoorPkTdCardB
import Derived.Test.YtkpengeaolcjhaaDoorPkMlTellsCardO
import Derived.Test.YtkpengeaolcjhaaDoorPkTdCardA
namespace Go.Proofs.YtkpengeaolcjhaaDoor
open Go.RowKit Go.Shelf Go.Lib
set_option maxRecDepth 100000
set_option linter.unusedSimpArgs false

def cmpS (a b : Int) : Int := if a < b then -1 else if b < a then 1 else 0
theorem nanS_any (x : Int) (w : World) : Calls Tryd.prog 110 #[.int .i64 x] w fun e w' => e = .returned (.bool false) ∧ Ext w w' := by
  go_enter Tryd.func110, Tryd.ntmps110
  go_wp2
  go_ret
  exact ⟨by simp, Ext.refl _⟩
theorem compareS_any (a b : Int) (w : World) : Calls Tryd.prog 62 #[.int .i64 a, .int .i64 b] w fun e w' => e = .returned (.int .i64 (cmpS a b)) ∧ Ext w w' := by
  go_enter Tryd.func62, Tryd.ntmps62
  go_wp2_with fail
  refine (nanS_any a w).mono ?_
  rintro e w1 ⟨rfl, hE1⟩
  have HE1 := Lib.hid hE1; clear hE1
  go_wp2_with fail
  refine (nanS_any b w1).mono ?_
  rintro e w2 ⟨rfl, hE2⟩
  have HE2 := Lib.hid (HE1.out.trans hE2); clear hE2
  by_cases h1 : a < b
  · have HC := Lib.hid (show cmpS a b = -1 by unfold cmpS; rw [if_pos h1])
    go_wp2
    go_ret
    exact ⟨by rw [HC.out]; rfl, HE2.out⟩
  · by_cases h2 : b < a
    · have HC := Lib.hid (show cmpS a b = 1 by unfold cmpS; rw [if_neg h1, if_pos h2])
      go_wp2
      go_ret
      exact ⟨by rw [HC.out]; rfl, HE2.out⟩
    · have HC := Lib.hid (show cmpS a b = 0 by unfold cmpS; rw [if_neg h1, if_neg h2])
      go_wp2
      go_ret
      exact ⟨by rw [HC.out]; rfl, HE2.out⟩
theorem wrapS_nat {k : Nat} (h : k ≤ 100000) : IntKind.i64.wrap (k : Int) = (k : Int) := by
  rw [IntKind.wrap_i64]
  omega
theorem own_at81 {W : World} {base g n c k : Nat} {m : List Draw} {y : Draw} (h : Own encD 81 4 W base (.slice (some ⟨g, 0, none⟩) n c) m) (hy : m[k]? = some y) :
    W.cell? ⟨g, k * 4, none⟩ = some (.int .i64 y.number) ∧ W.cell? ⟨g, k * 4 + 1, none⟩ = some (.int .i64 y.layer) ∧ W.cell? ⟨g, k * 4 + 2, none⟩ = some (.int .i64 y.grade.lo) ∧ W.cell? ⟨g, k * 4 + 3, none⟩ = some (.int .i64 y.grade.hi) ∧ g < W.heap.size := by
  have hsl : SlD W (.slice (some ⟨g, 0, none⟩) n c) m := h.sl (fun _ => rfl)
  have hk : k < n := by
    have h1 := (List.getElem?_eq_some_iff.1 hy).1
    obtain ⟨_, _, e, _⟩ := hsl
    injection e with _ e _
    omega
  obtain ⟨bb, off, y', e1, hy', hb, hc⟩ := hsl.at_ hk
  injection e1 with e1
  injection e1 with e1 e2 _
  subst e1 e2
  rw [hy] at hy'
  injection hy' with hy'
  subst hy'
  obtain ⟨c0, c1, c2, c3⟩ := SlD.cells hc (Ext.refl _)
  simp only [Nat.zero_add] at c0 c1 c2 c3
  exact ⟨c0, c1, c2, c3, hb⟩
theorem f97_any (x y : Draw) (w : World) : Calls Tryd.prog 97 #[valD x, valD y] w fun e w' => e = .returned (.int .i64 (cmpS x.number y.number)) ∧ Ext w w' := by
  dsimp only [valD]
  go_enter Tryd.func97, Tryd.ntmps97
  go_wp2_with fail
  refine (compareS_any x.number y.number _).mono ?_
  rintro e w1 ⟨rfl, hE1⟩
  have HE1 := Lib.hid ((((Ext.al _ _).alloc _ : Ext w _)).trans hE1); clear hE1
  go_wp2
  go_ret
  exact ⟨rfl, HE1.out⟩

/-- Where a draw comes to stand. -/
def stopD (S : List Draw) (x : Draw) : Nat → Nat
  | 0 => 0
  | j + 1 => match S[j]? with
    | some y => if x.number < y.number then stopD S x j else j + 1
    | none => j + 1
def putD (S : List Draw) (x : Draw) (j : Nat) : List Draw := S.take j ++ x :: S.drop j
def sortD (l : List Draw) : Nat → List Draw
  | 0 => []
  | k + 1 => match l[k]? with
    | some x => putD (sortD l k) x (stopD (sortD l k) x k)
    | none => sortD l k
theorem stopD_le (S : List Draw) (x : Draw) : ∀ j, stopD S x j ≤ j
  | 0 => Nat.le_refl _
  | j + 1 => by
    unfold stopD
    split
    · split
      · exact Nat.le_succ_of_le (stopD_le S x j)
      · exact Nat.le_refl _
    · exact Nat.le_refl _
theorem putD_len (S : List Draw) (x : Draw) {j : Nat} (hj : j ≤ S.length) : (putD S x j).length = S.length + 1 := by unfold putD; simp; omega
theorem sortD_len (l : List Draw) : ∀ k, k ≤ l.length → (sortD l k).length = k
  | 0, _ => rfl
  | k + 1, h => by
    have ih := sortD_len l k (by omega)
    unfold sortD
    rw [List.getElem?_eq_getElem (show k < l.length by omega)]
    simp only
    rw [putD_len _ _ (by rw [ih]; exact stopD_le _ _ _), ih]
theorem putD_at (S T : List Draw) (x : Draw) {j : Nat} (hj : j ≤ S.length) : (putD S x j ++ T)[j]? = some x := by
  unfold putD
  rw [List.append_assoc, List.getElem?_append_right (by simp; omega)]
  simp [List.length_take, Nat.min_eq_left hj]
theorem putD_before (S T : List Draw) (x : Draw) {j : Nat} (hj : j < S.length) : (putD S x (j + 1) ++ T)[j]? = S[j]? := by
  unfold putD
  rw [List.append_assoc, List.getElem?_append_left (by simp; omega), List.getElem?_take, if_pos (by omega)]
theorem putD_swap (S T : List Draw) (x y : Draw) {j : Nat} (hy : S[j]? = some y) : ((putD S x (j + 1) ++ T).set (j + 1) y).set j x = putD S x j ++ T := by
  have hj : j < S.length := (List.getElem?_eq_some_iff.1 hy).1
  have h1 : S.take (j + 1) = S.take j ++ [y] := by rw [List.take_add_one, hy]; rfl
  have h2 : S.drop j = y :: S.drop (j + 1) := drop_at hy
  unfold putD
  rw [h1, h2]
  have hl : (S.take j).length = j := by simp; omega
  rw [show List.take j S ++ [y] ++ x :: List.drop (j + 1) S ++ T = List.take j S ++ (y :: x :: (List.drop (j + 1) S ++ T)) by simp]
  rw [List.set_append_right (j + 1) y (by omega), List.set_append_right j x (by omega), hl]
  rw [show j + 1 - j = 1 by omega, Nat.sub_self]
  simp
theorem putD_end (S T : List Draw) (x : Draw) : putD S x S.length ++ T = S ++ (x :: T) := by unfold putD; simp

set_option maxHeartbeats 2000000 in
theorem f143_any (l : List Draw) (g n c base : Nat) (w : World) (hn : n = l.length) (hn0 : 0 < n) (hn20 : n ≤ 20) (ho : Own encD 81 4 w base (.slice (some ⟨g, 0, none⟩) n c) l) :
    Calls Tryd.prog 143 #[.slice (some ⟨g, 0, none⟩) n c, .int .i64 0, .int .i64 (n : Int), .func (.func 97) #[] #[]] w fun e w' => (∃ v, e = .returned v) ∧ Own encD 81 4 w' base (.slice (some ⟨g, 0, none⟩) n c) (sortD l n) ∧ w.grownBy w' (some g) := by
  have HO := Lib.hid ho
  have HN := Lib.hid hn
  have eg : ∀ args w, (callFunc 97 args).run Tryd.prog w = .ok (.enter 97 args) w := enters_of Tryd.func97 (by kernel_rfl) rfl
  clear ho hn
  go_enter Tryd.func143, Tryd.ntmps143
  go_wp2
  go_loopg [8, 9] n (fun gg s8 _ wr => ∃ i : Nat, 1 ≤ i ∧ i ≤ n ∧ n - i ≤ gg ∧ s8 = .int .i64 (i : Int) ∧ Aside (Own encD 81 4 wr base (.slice (some ⟨g, 0, none⟩) n c) (sortD l i ++ l.drop i)) ∧ Aside (w.grownBy wr (some g)))
  case atStart => exact ⟨1, by omega, by omega, by omega, rfl, by
    have h0 : 0 < l.length := by have := HN.out; omega
    have : sortD l 1 ++ l.drop 1 = l := by
      match l, h0 with
      | x :: r, _ => simp [sortD, stopD, putD]
    rw [this]; exact HO.out, World.grownBy.refl _ _⟩
  case round =>
    obtain ⟨i, hi1, hin, hgg, rfl, OW, GW⟩ := hrel
    by_cases hiN : i < n
    · have hiz : (i : Int) < (n : Int) := by omega
      obtain ⟨x, hx⟩ : ∃ x, l[i]? = some x := ⟨_, List.getElem?_eq_getElem (by have := HN.out; omega)⟩
      have HX := Lib.hid hx
      have HSL := Lib.hid (sortD_len l i (by have := HN.out; omega))
      have HSS := Lib.hid (show sortD l (i + 1) = putD (sortD l i) x (stopD (sortD l i) x i) by rw [sortD, hx])
      have HDR := Lib.hid (show sortD l i ++ l.drop i = putD (sortD l i) x i ++ l.drop (i + 1) by
        rw [drop_at hx]
        have := putD_end (sortD l i) (l.drop (i + 1)) x
        rw [HSL.out] at this
        exact this.symm)
      rw [HDR.out] at OW
      clear hx
      generalize sortD l i = S at *
      generalize hTT : l.drop (i + 1) = T at *
      have HTT := Lib.hid hTT; clear hTT
      obtain ⟨wo, hwo⟩ : ∃ wo : World, wo = wr := ⟨_, rfl⟩
      subst hwo
      go_wp2_with fail
      go_loopg [9] i (fun gg s9 wr => ∃ j : Nat, j ≤ i ∧ j ≤ gg ∧ s9 = .int .i64 (j : Int) ∧ Aside (Own encD 81 4 wr base (.slice (some ⟨g, 0, none⟩) n c) (putD S x j ++ T)) ∧ Aside (stopD S x i = stopD S x j) ∧ Aside (w.grownBy wr (some g)))
      case atStart => exact ⟨i, by omega, by omega, rfl, OW.out, rfl, GW.out⟩
      case round =>
        obtain ⟨j, hji, hgj, rfl, OJ, ST, GJ⟩ := hrel
        by_cases hj0 : j = 0
        · subst hj0
          have HFI := Lib.hid (show Own encD 81 4 wr base (.slice (some ⟨g, 0, none⟩) n c) (sortD l (i + 1) ++ T) by rw [HSS.out, ST.out]; exact OJ.out)
          go_wp2_with fail
          refine wp_region_tame (fun W => Ext wr W) (fun W W' => Ext W W') (by kernel_rfl) 53 rfl (by decide +kernel) (Ext.refl _).drew ?_
          repeat (apply tame_q rfl; (intro ρ W hC hr hD; (obtain ⟨hrc, hrg, hrf, hrs⟩ := hr); (simp [go_sem] at hD); go_simp; first | exact ⟨⟨hC, Ext.refl _⟩, rfl⟩ | exact ⟨⟨hC, RS.refl _⟩, rfl⟩ | exact rfl); simp only [List.nil_append, List.cons_append])
          refine tame_end 53 rfl rfl (fun ρ W hC hr hF => ?_)
          obtain ⟨hrc, hrg, hrf, hrs⟩ := hr
          simp [go_sem] at hF
          apply frame_to
          · go_simp
            exact rfl
          have HFI := Lib.hid (HFI.out.ext hC)
          have GJ2 := Lib.hid (grown_ext GJ.out hC)
          clear hF hrs hrc hrg hrf hC
          go_wp2
          go_roundg (n - (i + 1))
          case measure => omega
          case rel => exact ⟨i + 1, by omega, by omega, by omega, by simp, by rw [HTT.out]; exact HFI.out, GJ2.out⟩
        · obtain ⟨k, hk⟩ : ∃ k, j = k + 1 := ⟨j - 1, by omega⟩
          have HK := Lib.hid hk
          have hkn : k < n := by omega
          have hjn : j < n := by omega
          have hjS : j ≤ S.length := by have := HSL.out; omega
          obtain ⟨y, hy⟩ : ∃ y, S[k]? = some y := ⟨_, List.getElem?_eq_getElem (by omega)⟩
          have HY := Lib.hid hy
          have hsl : SlD wr (.slice (some ⟨g, 0, none⟩) n c) (putD S x j ++ T) := OJ.out.sl (fun _ => rfl)
          obtain ⟨bb, off, x', e1, hx', -, hxc⟩ := hsl.at_ hjn
          injection e1 with e1
          injection e1 with e1 e2 _
          subst e1 e2
          obtain rfl : x' = x := by rw [putD_at S T x hjS] at hx'; injection hx' with h; exact h.symm
          obtain ⟨bb, off, y', e1, hy', -, hyc⟩ := hsl.at_ hkn
          injection e1 with e1
          injection e1 with e1 e2 _
          subst e1 e2
          obtain rfl : y' = y := by rw [hk, putD_before S T x' (by omega), hy] at hy'; injection hy' with h; exact h.symm
          have cx := fun W (h : Ext wr W) => SlD.cells hxc h
          have cy := fun W (h : Ext wr W) => SlD.cells hyc h
          simp only [Nat.zero_add] at cx cy
          have x0 := fun W (h : Ext wr W) => (cx W h).1
          have x1 := fun W (h : Ext wr W) => (cx W h).2.1
          have x2 := fun W (h : Ext wr W) => (cx W h).2.2.1
          have x3 := fun W (h : Ext wr W) => (cx W h).2.2.2
          have y0 := fun W (h : Ext wr W) => (cy W h).1
          have y1 := fun W (h : Ext wr W) => (cy W h).2.1
          have y2 := fun W (h : Ext wr W) => (cy W h).2.2.1
          have y3 := fun W (h : Ext wr W) => (cy W h).2.2.2
          have hjz : (0 : Int) < (j : Int) := by omega
          have hjp : 0 < j := by omega
          have hjz2 : (j : Int) < (n : Int) := by omega
          have hjs : (j : Int) - 1 = (k : Int) := by omega
          have hkz2 : (k : Int) < (n : Int) := by omega
          clear hk hx' hy' hsl hy cx cy hxc hyc
          have hwk := wrapS_nat (k := k) (by omega)
          have hmj : (putD S x' j ++ T)[j]? = some x' := putD_at S T x' hjS
          have hmk : (putD S x' j ++ T)[k]? = some y' := by rw [HK.out, putD_before S T x' (by have := HK.out; omega)]; exact HY.out
          have hml : (putD S x' j ++ T).length = n := by have := OJ.out.sl (fun _ => rfl) (enc := encD); obtain ⟨_, _, e, _⟩ := this; injection e with _ e _; exact e.symm
          by_cases hxy : x'.number < y'.number
          · have hcv : cmpS x'.number y'.number = -1 := by unfold cmpS; rw [if_pos hxy]
            have HST := Lib.hid (show stopD S x' i = stopD S x' k by rw [ST.out, HK.out, stopD, HY.out]; simp only; rw [if_pos hxy])
            have HSW := Lib.hid (show ((putD S x' j ++ T).set j y').set k x' = putD S x' k ++ T by rw [HK.out]; exact putD_swap S T x' y' HY.out)
            go_wp2_with fail
            refine wp_region_tame (fun W => Ext wr W) (fun W W' => Ext W W') (by kernel_rfl) 53 rfl (by decide +kernel) (Ext.refl _).drew ?_
            repeat (apply tame_q rfl; (intro ρ W hC hr hD; (obtain ⟨hrc, hrg, hrf, hrs⟩ := hr); (simp [go_sem] at hD); go_simp; first | exact ⟨⟨hC, Ext.refl _⟩, rfl⟩ | exact ⟨⟨hC, RS.refl _⟩, rfl⟩ | exact rfl); simp only [List.nil_append, List.cons_append])
            apply tame_q rfl
            · intro ρ W hC hr hD
              obtain ⟨hrc, hrg, hrf, hrs⟩ := hr
              simp [go_sem] at hD
              go_simp
              refine (f97_any x' y' W).mono ?_
              rintro e w' ⟨rfl, hE⟩
              rw [hcv]
              exact ⟨_, rfl, ⟨hC.trans hE, hE⟩, rfl⟩
            simp only [List.nil_append, List.cons_append]
            repeat (apply tame_q rfl; (intro ρ W hC hr hD; (obtain ⟨hrc, hrg, hrf, hrs⟩ := hr); (simp [go_sem] at hD); go_simp; first | exact ⟨⟨hC, Ext.refl _⟩, rfl⟩ | exact ⟨⟨hC, RS.refl _⟩, rfl⟩ | exact rfl); simp only [List.nil_append, List.cons_append])
            refine tame_end 53 rfl rfl (fun ρ W hC hr hF => ?_)
            obtain ⟨hrc, hrg, hrf, hrs⟩ := hr
            simp [go_sem] at hF
            apply frame_to
            · go_simp
              exact rfl
            have OJ2 := Lib.hid (OJ.out.ext hC)
            have GJ2 := Lib.hid (grown_ext GJ.out hC)
            clear hF hrs hrc hrg hrf x0 x1 x2 x3 y0 y1 y2 y3 hC hcv
            generalize hm0 : putD S x' j ++ T = m0 at *
            go_wp2_with fail
            refine wp_region_tameN_cut (fun W' => W.grownBy W' (some g) ∧ ∃ m, Own encD 81 4 W' base (.slice (some ⟨g, 0, none⟩) n c) m ∧ m.length = n) (fun A B => Own encD 81 4 A base (.slice (some ⟨g, 0, none⟩) n c) (m0.set j y') → Own encD 81 4 B base (.slice (some ⟨g, 0, none⟩) n c) (m0.set j y')) (fun W' => Own encD 81 4 W' base (.slice (some ⟨g, 0, none⟩) n c) m0) 15 (by kernel_rfl) 53 rfl _ rfl (by decide +kernel) (by decide +kernel) (by decide +kernel) rfl ⟨⟨rfl, rfl, rfl, Nat.le_refl _, fun _ _ _ => rfl⟩, m0, OJ2.out, hml⟩ OJ2.out ?_
            simp only [List.dropLast]
            repeat (apply tameN_q rfl; (intro ρ W hC hN hr hD; (obtain ⟨hrc, hrg, hrf, hrs⟩ := hr); (simp [go_sem] at hD); go_simp; first | exact ⟨⟨hC, fun h => h, fun _ h => h⟩, rfl⟩ | exact ⟨hC, fun h => h, fun _ h => h⟩ | exact ⟨⟨hC, ⟨fun h => h, fun h => h⟩, fun _ h => h⟩, rfl⟩ | exact ⟨hC, ⟨fun h => h, fun h => h⟩, fun _ h => h⟩ | exact rfl); simp only [List.nil_append, List.cons_append])
            apply tameN_q rfl
            · intro ρ W' hC hN hr hD
              obtain ⟨hrc, hrg, hrf, hrs⟩ := hr
              simp [go_sem] at hD
              obtain ⟨b0, b1, b2, b3, bl⟩ := own_at81 (hN rfl) hmk
              go_simp
              first | exact ⟨⟨hC, fun h => h, fun _ h => h⟩, rfl⟩ | exact ⟨hC, fun h => h, fun _ h => h⟩
            simp only [List.nil_append, List.cons_append]
            repeat (apply tameN_q rfl; (intro ρ W hC hN hr hD; (obtain ⟨hrc, hrg, hrf, hrs⟩ := hr); (simp [go_sem] at hD); go_simp; first | exact ⟨⟨hC, fun h => h, fun _ h => h⟩, rfl⟩ | exact ⟨hC, fun h => h, fun _ h => h⟩ | exact ⟨⟨hC, ⟨fun h => h, fun h => h⟩, fun _ h => h⟩, rfl⟩ | exact ⟨hC, ⟨fun h => h, fun h => h⟩, fun _ h => h⟩ | exact rfl); simp only [List.nil_append, List.cons_append])
            apply tameN_q rfl
            · intro ρ W' hC hN hr hD
              obtain ⟨hrc, hrg, hrf, hrs⟩ := hr
              simp [go_sem] at hD
              obtain ⟨b0, b1, b2, b3, bl⟩ := own_at81 (hN rfl) hmj
              go_simp
              first | exact ⟨⟨hC, fun h => h, fun _ h => h⟩, rfl⟩ | exact ⟨hC, fun h => h, fun _ h => h⟩
            simp only [List.nil_append, List.cons_append]
            repeat (apply tameN_q rfl; (intro ρ W hC hN hr hD; (obtain ⟨hrc, hrg, hrf, hrs⟩ := hr); (simp [go_sem] at hD); go_simp; first | exact ⟨⟨hC, fun h => h, fun _ h => h⟩, rfl⟩ | exact ⟨hC, fun h => h, fun _ h => h⟩ | exact ⟨⟨hC, ⟨fun h => h, fun h => h⟩, fun _ h => h⟩, rfl⟩ | exact ⟨hC, ⟨fun h => h, fun h => h⟩, fun _ h => h⟩ | exact rfl); simp only [List.nil_append, List.cons_append])
            apply tameN_n (fun _ W' => Own encD 81 4 W' base (.slice (some ⟨g, 0, none⟩) n c) (m0.set j y')) (fun _ A B _ hR h => hR h)
            · intro ρ W' hC hN hr hD
              obtain ⟨hrc, hrg, hrf, hrs⟩ := hr
              simp [go_sem] at hD
              have h0 := hN rfl
              obtain ⟨a0, a1, a2, a3, al⟩ := own_at81 h0 hmj
              have df : ∀ k, W'.frozen? ⟨g, k, none⟩ = false := fun k => own_frozen h0 k
              have h4 := own_put4 (enc := encD) (fun _ => rfl) (x := y') rfl h0 hml.symm (show j < n from hjn)
              have H4 := Lib.hid h4; have HC := Lib.hid hC.1
              clear h4 h0 hN hC
              go_simp
              exact ⟨⟨⟨grown_set (grown_set (grown_set (grown_set HC.out (p := ⟨g, _, none⟩) (.inl rfl) _) (p := ⟨g, _, none⟩) (.inl rfl) _) (p := ⟨g, _, none⟩) (.inl rfl) _) (p := ⟨g, _, none⟩) (.inl rfl) _, _, H4.out, by rw [List.length_set]; exact hml⟩, fun _ => H4.out, fun h => by cases h⟩, H4.out⟩
            simp only [List.nil_append, List.cons_append]
            repeat (apply tameN_q rfl; (intro ρ W hC hN hr hD; (obtain ⟨hrc, hrg, hrf, hrs⟩ := hr); (simp [go_sem] at hD); go_simp; first | exact ⟨⟨hC, fun h => h, fun _ h => h⟩, rfl⟩ | exact ⟨hC, fun h => h, fun _ h => h⟩ | exact ⟨⟨hC, ⟨fun h => h, fun h => h⟩, fun _ h => h⟩, rfl⟩ | exact ⟨hC, ⟨fun h => h, fun h => h⟩, fun _ h => h⟩ | exact rfl); simp only [List.nil_append, List.cons_append])
            refine tameN_end 53 rfl rfl (fun ρ W' hC hr hF => ?_)
            obtain ⟨hrc, hrg, hrf, hrs⟩ := hr
            simp [go_sem] at hF
            obtain ⟨f37, f38, f39, f40, f41, f42, f43, f44, f45, f46, f47, f48, f49, f50, f51, fS, f52⟩ := hF
            apply frame_to
            · go_simp
              exact rfl
            have OJ4 := Lib.hid fS
            have GJ3 := Lib.hid (grown_tr GJ2.out hC.1)
            clear f37 f38 f39 f40 f41 f42 f43 f44 f45 f46 f47 f48 f49 f50 f51 fS f52 hrs hrc hrg hrf hC
            have hne : ¬ j = k := by have := HK.out; omega
            obtain ⟨b0, b1, b2, b3, bl⟩ := own_at81 OJ4.out (show (m0.set j y')[k]? = some y' by rw [List.getElem?_set, if_neg hne]; exact hmk)
            have df : ∀ k, W'.frozen? ⟨g, k, none⟩ = false := fun k => own_frozen OJ4.out k
            have OJ5 := Lib.hid (own_put4 (enc := encD) (fun _ => rfl) (x := x') rfl OJ4.out (by rw [List.length_set]; exact hml.symm) (show k < n from hkn))
            rw [HSW.out] at OJ5
            clear hmj hmk
            go_wp2
            go_roundg k
            case measure => have := HK.out; omega
            case rel => exact ⟨k, by have := HK.out; omega, by omega, rfl, OJ5.out, HST.out, grown_set (grown_set (grown_set (grown_set GJ3.out (p := ⟨g, _, none⟩) (.inl rfl) _) (p := ⟨g, _, none⟩) (.inl rfl) _) (p := ⟨g, _, none⟩) (.inl rfl) _) (p := ⟨g, _, none⟩) (.inl rfl) _⟩
          · have hcn : ¬ cmpS x'.number y'.number < 0 := by unfold cmpS; rw [if_neg hxy]; split <;> omega
            have hcd : decide (cmpS x'.number y'.number < 0) = false := decide_eq_false hcn
            have HFI := Lib.hid (show Own encD 81 4 wr base (.slice (some ⟨g, 0, none⟩) n c) (sortD l (i + 1) ++ T) by
              rw [HSS.out, ST.out, show stopD S x' j = j by rw [HK.out, stopD, HY.out]; simp only; rw [if_neg hxy]]
              exact OJ.out)
            go_wp2_with fail
            refine wp_region_tame (fun W => Ext wr W) (fun W W' => Ext W W') (by kernel_rfl) 53 rfl (by decide +kernel) (Ext.refl _).drew ?_
            repeat (apply tame_q rfl; (intro ρ W hC hr hD; (obtain ⟨hrc, hrg, hrf, hrs⟩ := hr); (simp [go_sem] at hD); go_simp; first | exact ⟨⟨hC, Ext.refl _⟩, rfl⟩ | exact ⟨⟨hC, RS.refl _⟩, rfl⟩ | exact rfl); simp only [List.nil_append, List.cons_append])
            apply tame_q rfl
            · intro ρ W hC hr hD
              obtain ⟨hrc, hrg, hrf, hrs⟩ := hr
              simp [go_sem] at hD
              go_simp
              refine (f97_any x' y' W).mono ?_
              rintro e w' ⟨rfl, hE⟩
              exact ⟨_, rfl, ⟨hC.trans hE, hE⟩, rfl⟩
            simp only [List.nil_append, List.cons_append]
            repeat (apply tame_q rfl; (intro ρ W hC hr hD; (obtain ⟨hrc, hrg, hrf, hrs⟩ := hr); (simp [go_sem] at hD); go_simp; first | exact ⟨⟨hC, Ext.refl _⟩, rfl⟩ | exact ⟨⟨hC, RS.refl _⟩, rfl⟩ | exact rfl); simp only [List.nil_append, List.cons_append])
            refine tame_end 53 rfl rfl (fun ρ W hC hr hF => ?_)
            obtain ⟨hrc, hrg, hrf, hrs⟩ := hr
            simp [go_sem] at hF
            apply frame_to
            · go_simp
              exact rfl
            have HFI := Lib.hid (HFI.out.ext hC)
            have GJ2 := Lib.hid (grown_ext GJ.out hC)
            clear hF hrs hrc hrg hrf x0 x1 x2 x3 y0 y1 y2 y3 hC
            go_wp2
            go_roundg (n - (i + 1))
            case measure => omega
            case rel => exact ⟨i + 1, by omega, by omega, by omega, by simp, by rw [HTT.out]; exact HFI.out, GJ2.out⟩
    · have hie : i = n := by omega
      subst hie
      have HF := Lib.hid (show sortD l i ++ l.drop i = sortD l i by rw [List.drop_eq_nil_of_le (by have := HN.out; omega), List.append_nil])
      go_wp2
      refine bodyPost_end (results_none rfl _ _ _) rfl ?_
      exact ⟨⟨_, rfl⟩, by rw [← HF.out]; exact OW.out, GW.out⟩

theorem f126_any (l : List Draw) (g n c base : Nat) (w : World) (hn : n = l.length) (hn0 : 0 < n) (hn20 : n < 20) (ho : Own encD 81 4 w base (.slice (some ⟨g, 0, none⟩) n c) l) :
    Calls Tryd.prog 126 #[.slice (some ⟨g, 0, none⟩) n c, .int .i64 (n : Int), .func (.func 97) #[] #[]] w fun e w' => (∃ v, e = .returned v) ∧ Own encD 81 4 w' base (.slice (some ⟨g, 0, none⟩) n c) (sortD l n) ∧ w.grownBy w' (some g) := by
  have HI := Lib.hid (f143_any l g n c base w hn hn0 (by omega) ho)
  have h1 : (n : Int) < 20 := by omega
  clear ho hn
  go_enter Tryd.func126, Tryd.ntmps126
  go_wp2
  go_loopg [7, 8] 1 (fun gg s7 s8 wr => gg = 1 ∧ s7 = .int .i64 0 ∧ s8 = .int .i64 20 ∧ wr = w)
  case atStart => exact ⟨rfl, rfl, rfl, rfl⟩
  case round =>
    obtain ⟨rfl, rfl, rfl, rfl⟩ := hrel
    go_wp2_with fail
    refine HI.out.mono ?_
    rintro e w2 ⟨⟨v, rfl⟩, ho, hg⟩
    have HO := Lib.hid ho; have HG := Lib.hid hg
    clear ho hg HI
    go_wp2
    go_loopg [6, 7, 8, 9] 1 (fun gg s6 s7 s8 _ wr => gg = 1 ∧ s6 = .int .i64 20 ∧ s7 = .int .i64 0 ∧ s8 = .int .i64 20 ∧ wr = w2)
    case atStart => exact ⟨rfl, rfl, rfl, rfl, rfl⟩
    case round =>
      obtain ⟨rfl, rfl, rfl, rfl, rfl⟩ := hrel
      go_wp2
      refine bodyPost_end (results_none rfl _ _ _) rfl ?_
      exact ⟨⟨_, rfl⟩, HO.out, HG.out⟩
theorem f96_any (l : List Draw) (g n c base : Nat) (w : World) (hn : n = l.length) (hn0 : 0 < n) (hn20 : n < 20) (ho : Own encD 81 4 w base (.slice (some ⟨g, 0, none⟩) n c) l) :
    Calls Tryd.prog 96 #[.slice (some ⟨g, 0, none⟩) n c, .func (.func 97) #[] #[]] w fun e w' => (∃ v, e = .returned v) ∧ Own encD 81 4 w' base (.slice (some ⟨g, 0, none⟩) n c) (sortD l n) ∧ w.grownBy w' (some g) := by
  have HI := Lib.hid (f126_any l g n c base w hn hn0 hn20 ho)
  clear ho hn
  go_enter Tryd.func96, Tryd.ntmps96
  go_wp2_with fail
  refine HI.out.mono ?_
  rintro e w2 ⟨⟨v, rfl⟩, ho, hg⟩
  have HO := Lib.hid ho; have HG := Lib.hid hg
  clear ho hg HI
  go_wp2
  refine bodyPost_end (results_none rfl _ _ _) rfl ?_
  exact ⟨⟨_, rfl⟩, HO.out, HG.out⟩
theorem own_at141 {W : World} {base g n c k : Nat} {m : List Weigh} {y : Weigh} (h : Own encW 141 4 W base (.slice (some ⟨g, 0, none⟩) n c) m) (hy : m[k]? = some y) :
    W.cell? ⟨g, k * 4, none⟩ = some (.int .i64 y.number) ∧ W.cell? ⟨g, k * 4 + 1, none⟩ = some (.int .i64 y.pounds) ∧ W.cell? ⟨g, k * 4 + 2, none⟩ = some (.int .i64 y.damp.lo) ∧ W.cell? ⟨g, k * 4 + 3, none⟩ = some (.int .i64 y.damp.hi) ∧ g < W.heap.size := by
  have hsl : SlW W (.slice (some ⟨g, 0, none⟩) n c) m := h.sl (fun _ => rfl)
  have hk : k < n := by
    have h1 := (List.getElem?_eq_some_iff.1 hy).1
    obtain ⟨_, _, e, _⟩ := hsl
    injection e with _ e _
    omega
  obtain ⟨bb, off, y', e1, hy', hb, hc⟩ := hsl.at_ hk
  injection e1 with e1
  injection e1 with e1 e2 _
  subst e1 e2
  rw [hy] at hy'
  injection hy' with hy'
  subst hy'
  obtain ⟨c0, c1, c2, c3⟩ := SlW.cells hc (Ext.refl _)
  simp only [Nat.zero_add] at c0 c1 c2 c3
  exact ⟨c0, c1, c2, c3, hb⟩
/-- Where a draw comes to stand. -/
def stopW (S : List Weigh) (x : Weigh) : Nat → Nat
  | 0 => 0
  | j + 1 => match S[j]? with
    | some y => if x.number < y.number then stopW S x j else j + 1
    | none => j + 1
def putW (S : List Weigh) (x : Weigh) (j : Nat) : List Weigh := S.take j ++ x :: S.drop j
def sortW (l : List Weigh) : Nat → List Weigh
  | 0 => []
  | k + 1 => match l[k]? with
    | some x => putW (sortW l k) x (stopW (sortW l k) x k)
    | none => sortW l k
theorem stopW_le (S : List Weigh) (x : Weigh) : ∀ j, stopW S x j ≤ j
  | 0 => Nat.le_refl _
  | j + 1 => by
    unfold stopW
    split
    · split
      · exact Nat.le_succ_of_le (stopW_le S x j)
      · exact Nat.le_refl _
    · exact Nat.le_refl _
theorem putW_len (S : List Weigh) (x : Weigh) {j : Nat} (hj : j ≤ S.length) : (putW S x j).length = S.length + 1 := by unfold putW; simp; omega
theorem sortW_len (l : List Weigh) : ∀ k, k ≤ l.length → (sortW l k).length = k
  | 0, _ => rfl
  | k + 1, h => by
    have ih := sortW_len l k (by omega)
    unfold sortW
    rw [List.getElem?_eq_getElem (show k < l.length by omega)]
    simp only
    rw [putW_len _ _ (by rw [ih]; exact stopW_le _ _ _), ih]
theorem putW_at (S T : List Weigh) (x : Weigh) {j : Nat} (hj : j ≤ S.length) : (putW S x j ++ T)[j]? = some x := by
  unfold putW
  rw [List.append_assoc, List.getElem?_append_right (by simp; omega)]
  simp [List.length_take, Nat.min_eq_left hj]
theorem putW_before (S T : List Weigh) (x : Weigh) {j : Nat} (hj : j < S.length) : (putW S x (j + 1) ++ T)[j]? = S[j]? := by
  unfold putW
  rw [List.append_assoc, List.getElem?_append_left (by simp; omega), List.getElem?_take, if_pos (by omega)]
theorem putW_swap (S T : List Weigh) (x y : Weigh) {j : Nat} (hy : S[j]? = some y) : ((putW S x (j + 1) ++ T).set (j + 1) y).set j x = putW S x j ++ T := by
  have hj : j < S.length := (List.getElem?_eq_some_iff.1 hy).1
  have h1 : S.take (j + 1) = S.take j ++ [y] := by rw [List.take_add_one, hy]; rfl
  have h2 : S.drop j = y :: S.drop (j + 1) := drop_at hy
  unfold putW
  rw [h1, h2]
  have hl : (S.take j).length = j := by simp; omega
  rw [show List.take j S ++ [y] ++ x :: List.drop (j + 1) S ++ T = List.take j S ++ (y :: x :: (List.drop (j + 1) S ++ T)) by simp]
  rw [List.set_append_right (j + 1) y (by omega), List.set_append_right j x (by omega), hl]
  rw [show j + 1 - j = 1 by omega, Nat.sub_self]
  simp
theorem putW_end (S T : List Weigh) (x : Weigh) : putW S x S.length ++ T = S ++ (x :: T) := by unfold putW; simp

end Go.Proofs.YtkpengeaolcjhaaDoor
/- core.Put and core.Weighed. -/
namespace Go.Proofs.YtkpengeaolcjhaaDoor
open Go.RowKit Go.Shelf Go.Lib
set_option maxRecDepth 100000
set_option linter.unusedSimpArgs false

def noB : Bale := ⟨0, 0, ⟨0, 0⟩, [], []⟩
theorem TwinV.no (base : Nat) (W : World) : TwinV noB base (.agg #[.int .i64 0, .int .i64 0, .int .i64 0, .int .i64 0, .slice none 0 0, .slice none 0 0]) W := ⟨_, _, rfl, Own.nil _ _, Own.nil _ _⟩
theorem own_set6 {α : Type} {enc : α → List Value} {sz base g : Nat} {e : TypeId} {w : World} {v : Value} {l : List α} (h : Own enc e sz w base v l) (hg : g < base) (y0 y1 y2 y3 y4 y5 : Value) : Own enc e sz (set6 w g y0 y1 y2 y3 y4 y5) base v l :=
  own_set (own_set (own_set (own_set (own_set (own_set h hg) hg) hg) hg) hg) hg
theorem ext_set6 {base g : Nat} {a w : World} (h : Below base a w) (hg : base ≤ g) (y0 y1 y2 y3 y4 y5 : Value) : Below base a (set6 w g y0 y1 y2 y3 y4 y5) :=
  (((((h.setCell hg y0).setCell hg y1).setCell hg y2).setCell hg y3).setCell hg y4).setCell hg y5
--DD
/-- A bale with a draw more. -/
def withD (b : Bale) (x : Draw) : Bale := ⟨b.id, b.layers, b.dry, sortD (b.draws ++ [x]) (b.draws.length + 1), b.weighs⟩
def putE (b : Bale) (x : Draw) : Int := if valid b then (if b.draws.length = 10 then 9 else if valid (withD b x) then 0 else 33) else 30
def putB (b : Bale) (x : Draw) : Bale := if putE b x = 0 then withD b x else noB

set_option maxHeartbeats 2000000 in
theorem f44_any (b : Bale) (x : Draw) (dv wv : Value) (w : World) (hT : Tab w) (hd : SlD w dv b.draws) (hw : SlW w wv b.weighs) :
    Calls Tryd.prog 44 #[valB b dv wv, valD x] w fun e w' => (∃ v, e = .returned (.tuple #[v, .int .i64 (putE b x)]) ∧ TwinV (putB b x) w.heap.size v w') ∧ Ext w w' := by
  have HT := Lib.hid hT
  have HD := Lib.hid hd
  have HW := Lib.hid hw
  obtain ⟨A, n, cp, rfl, hn, hlc, hcm⟩ := hd.form
  obtain ⟨A2, n2, cp2, rfl, hn2, hlc2, hcm2⟩ := hw.form
  clear hd hw hT
  dsimp only [valD]
  go_enter Tryd.func44, Tryd.ntmps44
  go_wp2_with fail
  generalize hw3 : (((w.alloc (.cells #[.int .i64 b.id, .int .i64 b.layers, .int .i64 b.dry.lo, .int .i64 b.dry.hi, .slice A n cp, .slice A2 n2 cp2] 59)).alloc (.cells #[.int .i64 x.number, .int .i64 x.layer, .int .i64 x.grade.lo, .int .i64 x.grade.hi] 81)).alloc (.cells #[.int .i64 0, .int .i64 0, .int .i64 0, .int .i64 0, .slice none 0 0, .slice none 0 0] 59)) = w3
  have HE3 := Lib.hid (show Ext w w3 from hw3 ▸ ((Ext.al _ _).alloc _).alloc _)
  have HZ3 := Lib.hid (show w3.heap.size = w.heap.size + 3 by rw [← hw3]; simp)
  have HB0 := Lib.hid (show Blk w3 w.heap.size 59 #[.int .i64 b.id, .int .i64 b.layers, .int .i64 b.dry.lo, .int .i64 b.dry.hi, .slice A n cp, .slice A2 n2 cp2] from hw3 ▸ ((Blk.new _ _ _).alloc _).alloc _)
  have HB1 := Lib.hid (show Blk w3 (w.heap.size + 1) 81 #[.int .i64 x.number, .int .i64 x.layer, .int .i64 x.grade.lo, .int .i64 x.grade.hi] from hw3 ▸ (Blk.at_ (by simp)).alloc _)
  have HB2 := Lib.hid (show Blk w3 (w.heap.size + 1 + 1) 59 #[.int .i64 0, .int .i64 0, .int .i64 0, .int .i64 0, .slice none 0 0, .slice none 0 0] from hw3 ▸ Blk.at_ (by simp))
  clear hw3
  refine (check_any b _ _ _ (HT.out.ext HE3.out) (HD.out.ext HE3.out) (HW.out.ext HE3.out)).mono ?_
  rintro e w4 ⟨rfl, hE4⟩
  have HE4 := Lib.hid (HE3.out.trans hE4)
  have HC0 := Lib.hid (HB0.out.ext hE4); have HC1 := Lib.hid (HB1.out.ext hE4); have HC2 := Lib.hid (HB2.out.ext hE4)
  have hz4 : w3.heap.size ≤ w4.heap.size := hE4.size
  have t0 := HC2.out.cell 0
  have t1 := HC2.out.cell 1
  have t2 := HC2.out.cell 2
  have t3 := HC2.out.cell 3
  have t4 := HC2.out.cell 4
  have t5 := HC2.out.cell 5
  have tl := HC2.out.lt
  have tf := HC2.out.frozen
  have x0 := HC0.out.cell 0
  have x1 := HC0.out.cell 1
  have x2 := HC0.out.cell 2
  have x3 := HC0.out.cell 3
  have x4 := HC0.out.cell 4
  have x5 := HC0.out.cell 5
  have xl := HC0.out.lt
  simp at t0 t1 t2 t3 t4 t5 x0 x1 x2 x3 x4 x5
  clear hE4 HB0 HB1 HB2
  cases hv : valid b with
  | false =>
    have HV := Lib.hid (show putE b x = 30 by unfold putE; rw [hv]; rfl)
    have HVB := Lib.hid (show putB b x = noB by unfold putB; rw [HV.out]; rfl)
    clear hv
    dsimp only [errB]
    go_wp2
    refine ret_set6 HC2.out fun W' ⟨b0, b1, b2, b3, b4, b5⟩ hW => ?_
    refine bodyPost_ret (v := .tuple #[.agg #[.int .i64 0, .int .i64 0, .int .i64 0, .int .i64 0, .slice none 0 0, .slice none 0 0], .int .i64 30]) (by simp [results, Tryd.results44, go_sem, b0, b1, b2, b3, b4, b5]) rfl ?_
    exact ⟨⟨_, by rw [HV.out], by rw [HVB.out]; exact TwinV.no _ _⟩, ext_grown HE4.out hW (by omega)⟩
  | true =>
    have HV := Lib.hid hv
    have HBD := Lib.hid (valid_bds hv)
    clear hv
    by_cases h10 : n = 10
    · have HVE := Lib.hid (show putE b x = 9 by unfold putE; rw [HV.out, ← hn.out, h10]; rfl)
      have HVB := Lib.hid (show putB b x = noB by unfold putB; rw [HVE.out]; rfl)
      subst h10
      dsimp only [errB]
      go_wp2
      refine ret_set6 HC2.out fun W' ⟨b0, b1, b2, b3, b4, b5⟩ hW => ?_
      refine bodyPost_ret (v := .tuple #[.agg #[.int .i64 0, .int .i64 0, .int .i64 0, .int .i64 0, .slice none 0 0, .slice none 0 0], .int .i64 9]) (by simp [results, Tryd.results44, go_sem, b0, b1, b2, b3, b4, b5]) rfl ?_
      exact ⟨⟨_, by rw [HVE.out], by rw [HVB.out]; exact TwinV.no _ _⟩, ext_grown HE4.out hW (by omega)⟩
    · have h10z : ¬ ((n : Int) = 10) := by omega
      dsimp only [errB]
      go_wp2_with fail
      refine (copied_any b _ _ _ (HD.out.ext HE4.out) (HW.out.ext HE4.out) (by have := HBD.out.nd; omega) (by have := HBD.out.nw; omega)).mono ?_
      rintro e w5 ⟨⟨v, rfl, dv, wv, rfl, o1, o2⟩, hE5⟩
      obtain ⟨Ad, nd, cd, rfl, -, -, -⟩ := (show SlD w5 dv b.draws from o1.sl (fun _ => rfl)).form
      obtain ⟨Aw, nw, cw, rfl, -, -, -⟩ := (show SlW w5 wv b.weighs from o2.sl (fun _ => rfl)).form
      have O1 := Lib.hid o1; have O2 := Lib.hid o2; have HE5 := Lib.hid hE5
      have HD0 := Lib.hid (HC0.out.ext hE5); have HD1 := Lib.hid (HC1.out.ext hE5); have HD2 := Lib.hid (HC2.out.ext hE5)
      have HZ4 := Lib.hid hz4
      clear o1 o2 hE5 HC0 HC1 HC2 x0 x1 x2 x3 x4 x5 xl t0 t1 t2 t3 t4 t5 tl tf hz4
      have x0 := HD0.out.cell 0
      have x1 := HD0.out.cell 1
      have x2 := HD0.out.cell 2
      have x3 := HD0.out.cell 3
      have x4 := HD0.out.cell 4
      have x5 := HD0.out.cell 5
      have xl := HD0.out.lt
      have xf := HD0.out.frozen
      simp at x0 x1 x2 x3 x4 x5
      have y0 := HD1.out.cell 0
      have y1 := HD1.out.cell 1
      have y2 := HD1.out.cell 2
      have y3 := HD1.out.cell 3
      have yl := HD1.out.lt
      simp at y0 y1 y2 y3
      have hz5 := HE5.out.size
      have hz3 := HZ3.out
      have hz4 := HZ4.out
      have HH := Lib.hid (show w.heap.size + 3 ≤ w4.heap.size ∧ w4.heap.size ≤ w5.heap.size by omega)
      clear hz5 hz3 hz4
      dsimp only [valB]
      go_wp2_with (at_builtin; refine wpList_app encD 56 81 4 _ 32 Tryd.underlying56 info81x rfl (by decide) (by decide) (fun _ => rfl) encD_1 rfl (.tmp 21) (.tmp 23) rfl w4.heap.size _ b.draws rfl ((own_set6 O1.out (by have := HH.out; omega) _ _ _ _ _ _).alloc _) w5.heap.size 1 x rfl (cells4 (by simp [go_sem]) (by simp [go_sem]) (by simp [go_sem]) (by simp [go_sem])) (by have := HBD.out.nd; omega) (by have := HH.out; simp; omega) ?_)
      intro g cap w6 hown hg2 hbel hgr
      have P1 := Lib.hid hown
      have P2 := Lib.hid (own_apart ((own_set6 O2.out (by have := HH.out; omega) _ _ _ _ _ _).alloc _) ((own_set6 O1.out (by have := HH.out; omega) _ _ _ _ _ _).alloc _) (by decide) hgr)
      have HF0 := Lib.hid (((HD0.out.set6 _ _ _ _ _ _).alloc _).below hbel (by have := HH.out; omega))
      have HF2 := Lib.hid ((((HD2.out.grown (grown_set (grown_set (grown_set (grown_set (grown_set (grown_set (World.grownBy.refl _ (some w.heap.size)) (p := ⟨w.heap.size, 0, none⟩) (.inl rfl) _) (p := ⟨w.heap.size, 1, none⟩) (.inl rfl) _) (p := ⟨w.heap.size, 2, none⟩) (.inl rfl) _) (p := ⟨w.heap.size, 3, none⟩) (.inl rfl) _) (p := ⟨w.heap.size, 4, none⟩) (.inl rfl) _) (p := ⟨w.heap.size, 5, none⟩) (.inl rfl) _) (by intro e; injection e with e; omega))).alloc _).below hbel (by have := HH.out; omega))
      have E6 := Lib.hid (show Ext w w6 from ((ext_set6 (HE4.out.trans HE5.out) (Nat.le_refl _) _ _ _ _ _ _).alloc (by have := HH.out; simp; omega) _).trans (Below.mono hbel (by have := HH.out; omega)))
      have hs6 := hbel.size
      simp at hs6
      have HG := Lib.hid (show w.heap.size + 3 ≤ w4.heap.size ∧ w4.heap.size ≤ g ∧ w4.heap.size ≤ w6.heap.size by have := HH.out; omega)
      clear hown hg2 hbel hgr hs6 HH O1 O2 HD0 HD1 HD2 x0 x1 x2 x3 x4 x5 xl xf y0 y1 y2 y3 yl
      have x0 := HF0.out.cell 0
      have x1 := HF0.out.cell 1
      have x2 := HF0.out.cell 2
      have x3 := HF0.out.cell 3
      have x4 := HF0.out.cell 4
      have x5 := HF0.out.cell 5
      have xl := HF0.out.lt
      have xf := HF0.out.frozen
      simp at x0 x1 x2 x3 x4 x5
      go_wp2_with fail
      generalize hw7 : w6.setCell ⟨w.heap.size, 4, none⟩ _ = w7
      have HK7 := Lib.hid (show Blk w7 w.heap.size 59 #[.int .i64 b.id, .int .i64 b.layers, .int .i64 b.dry.lo, .int .i64 b.dry.hi, .slice (some ⟨g, 0, none⟩) (b.draws.length + 1) cap, .slice Aw nw cw] from hw7 ▸ (by have := HF0.out.set_ 4 (.slice (some ⟨g, 0, none⟩) (b.draws.length + 1) cap); simpa using this))
      have HG2 := Lib.hid (show Blk w7 (w.heap.size + 1 + 1) 59 _ from hw7 ▸ HF2.out.far (by dsimp only; omega) _)
      have E7 := Lib.hid (show Ext w w7 from hw7 ▸ E6.out.setCell (Nat.le_refl _) _)
      have R1 := Lib.hid (show Own encD 81 4 w7 w4.heap.size (.slice (some ⟨g, 0, none⟩) (b.draws.length + 1) cap) _ from hw7 ▸ own_set P1.out (by have := HG.out; omega))
      have R2 := Lib.hid (show Own encW 141 4 w7 w4.heap.size (.slice Aw nw cw) b.weighs from hw7 ▸ own_set P2.out (by have := HG.out; omega))
      have hs7 : w7.heap.size = w6.heap.size := by rw [← hw7]; simp [World.setCell]
      have HG7 := Lib.hid (show w.heap.size + 3 ≤ w4.heap.size ∧ w4.heap.size ≤ g ∧ w4.heap.size ≤ w7.heap.size by have := HG.out; omega)
      clear hw7 hs7 HG P1 P2 HF0 HF2 E6 x0 x1 x2 x3 x4 x5 xl xf
      refine (f96_any (b.draws ++ [x]) g (b.draws.length + 1) cap w4.heap.size w7 (by simp) (by omega) (by have := HBD.out.nd; omega) R1.out).mono ?_
      rintro e w8 ⟨⟨v, rfl⟩, q1, G8⟩
      have HQ1 := Lib.hid (show Own encD 81 4 w8 w4.heap.size (.slice (some ⟨g, 0, none⟩) (b.draws.length + 1) cap) (withD b x).draws from q1)
      have HQ2 := Lib.hid (show Own encW 141 4 w8 w4.heap.size (.slice Aw nw cw) (withD b x).weighs from own_apart R2.out R1.out (by decide) G8)
      have hs8 := G8.size
      have HK8 := Lib.hid (HK7.out.grown G8 (by intro e; injection e with e; have := HG7.out; omega)); have HG8 := Lib.hid (HG2.out.grown G8 (by intro e; injection e with e; have := HG7.out; omega))
      have E8 := Lib.hid (show Ext w w8 from ext_grown E7.out G8 (by have := HG7.out; omega))
      have HS8 := Lib.hid (show w.heap.size + 3 ≤ w4.heap.size ∧ w4.heap.size ≤ w8.heap.size by have := HG7.out; omega)
      clear q1 G8 hs8 HK7 HG2 E7 R1 R2 HG7
      have x0 := HK8.out.cell 0
      have x1 := HK8.out.cell 1
      have x2 := HK8.out.cell 2
      have x3 := HK8.out.cell 3
      have x4 := HK8.out.cell 4
      have x5 := HK8.out.cell 5
      have xl := HK8.out.lt
      simp at x0 x1 x2 x3 x4 x5
      go_wp2_with fail
      refine (check_any (withD b x) _ _ _ (HT.out.ext E8.out) (Own.sl (fun _ => rfl) HQ1.out) (Own.sl (fun _ => rfl) HQ2.out)).mono ?_
      rintro e w9 ⟨rfl, hE9⟩
      have HE9 := Lib.hid hE9
      have HK9 := Lib.hid (HK8.out.ext hE9); have HG9 := Lib.hid (HG8.out.ext hE9)
      have hz9 : w8.heap.size ≤ w9.heap.size := hE9.size
      clear hE9 x0 x1 x2 x3 x4 x5 xl HK8 HG8
      have x0 := HK9.out.cell 0
      have x1 := HK9.out.cell 1
      have x2 := HK9.out.cell 2
      have x3 := HK9.out.cell 3
      have x4 := HK9.out.cell 4
      have x5 := HK9.out.cell 5
      have xl := HK9.out.lt
      have t0 := HG9.out.cell 0
      have t1 := HG9.out.cell 1
      have t2 := HG9.out.cell 2
      have t3 := HG9.out.cell 3
      have t4 := HG9.out.cell 4
      have t5 := HG9.out.cell 5
      have tl := HG9.out.lt
      have tf := HG9.out.frozen
      simp at x0 x1 x2 x3 x4 x5 t0 t1 t2 t3 t4 t5
      cases hv : valid (withD b x) with
      | false =>
        have HVE := Lib.hid (show putE b x = 33 by unfold putE; rw [HV.out, if_pos rfl, if_neg (by have := hn.out; omega), hv]; rfl)
        have HVB := Lib.hid (show putB b x = noB by unfold putB; rw [HVE.out]; rfl)
        clear hv
        dsimp only [errB]
        go_wp2
        refine ret_set6 HG9.out fun W' ⟨b0, b1, b2, b3, b4, b5⟩ hW => ?_
        refine bodyPost_ret (v := .tuple #[.agg #[.int .i64 0, .int .i64 0, .int .i64 0, .int .i64 0, .slice none 0 0, .slice none 0 0], .int .i64 33]) (by simp [results, Tryd.results44, go_sem, b0, b1, b2, b3, b4, b5]) rfl ?_
        exact ⟨⟨_, by rw [HVE.out], by rw [HVB.out]; exact TwinV.no _ _⟩, ext_grown (E8.out.trans HE9.out) hW (by omega)⟩
      | true =>
        have HVE := Lib.hid (show putE b x = 0 by unfold putE; rw [HV.out, if_pos rfl, if_neg (by have := hn.out; omega), hv]; rfl)
        have HVB := Lib.hid (show putB b x = withD b x by unfold putB; rw [HVE.out]; rfl)
        clear hv
        dsimp only [errB]
        go_wp2
        refine ret_set6 HG9.out fun W' ⟨b0, b1, b2, b3, b4, b5⟩ hW => ?_
        refine bodyPost_ret (v := .tuple #[valB (withD b x) (.slice (some ⟨g, 0, none⟩) (b.draws.length + 1) cap) (.slice Aw nw cw), .int .i64 0]) (by simp [results, Tryd.results44, go_sem, b0, b1, b2, b3, b4, b5, withD]) rfl ?_
        have hs := HS8.out
        refine ⟨⟨_, by rw [HVE.out], ?_⟩, ext_grown (E8.out.trans HE9.out) hW (by omega)⟩
        rw [HVB.out]
        exact ⟨_, _, rfl, own_mono (own_kept (HQ1.out.ext HE9.out) hW (by omega)) (by omega), own_mono (own_kept (HQ2.out.ext HE9.out) hW (by omega)) (by omega)⟩
--WW
/-- A bale with a weighing more. -/
def withX (b : Bale) (x : Weigh) : Bale := ⟨b.id, b.layers, b.dry, b.draws, sortW (b.weighs ++ [x]) (b.weighs.length + 1)⟩
def liftE (b : Bale) (x : Weigh) : Int := if valid b then (if b.weighs.length = 8 then 9 else if valid (withX b x) then 0 else 34) else 30
def liftB (b : Bale) (x : Weigh) : Bale := if liftE b x = 0 then withX b x else noB

end Go.Proofs.YtkpengeaolcjhaaDoor
/- Insertion at its place, plain (for bales that get a draw or a weighing more). -/
namespace Go.Proofs.YtkpengeaolcjhaaDoor
open Go.RowKit Go.Shelf Go.Lib
set_option maxRecDepth 100000
set_option linter.unusedSimpArgs false

def spotDI (l : List Draw) (x : Draw) : Nat := (l.takeWhile fun y => decide (y.number < x.number)).length
def insDI (l : List Draw) (x : Draw) : List Draw := l.take (spotDI l x) ++ [x] ++ l.drop (spotDI l x)
def spotWI (l : List Weigh) (x : Weigh) : Nat := (l.takeWhile fun y => decide (y.number < x.number)).length
def insWI (l : List Weigh) (x : Weigh) : List Weigh := l.take (spotWI l x) ++ [x] ++ l.drop (spotWI l x)
theorem rising_leI : ∀ (l : List Int) (last : Int), risingB last l = true → ∀ n ∈ l, n ≤ 9999
  | [], _, _ => by simp
  | n :: l, last, h => by
    unfold risingB inB at h
    simp only [Bool.and_eq_true, decide_eq_true_eq] at h
    intro m hm
    rcases List.mem_cons.1 hm with rfl | hm
    · omega
    · exact rising_leI l n h.2 m hm
theorem number_ltI {b : Bale} (hv : valid b = true) : (b.draws.map (·.number)).Pairwise (· < ·) ∧ (b.weighs.map (·.number)).Pairwise (· < ·) ∧ risingB 0 (b.draws.map (·.number)) = true ∧ risingB 0 (b.weighs.map (·.number)) = true := by
  have h := hv
  unfold valid chk2 at h
  simp only [Bool.and_eq_true] at h
  exact ⟨(rise_lt _ _ h.2.1.1.2).1, (rise_lt _ _ h.2.1.2).1, h.2.1.1.2, h.2.1.2⟩
theorem valid_drawsI {b : Bale} (h : valid b = true) : (b.draws.map (·.number)).Pairwise (· < ·) := by
  unfold valid chk2 at h
  simp only [Bool.and_eq_true] at h
  exact (rise_lt _ _ h.2.1.1.2).1
theorem stop_ofI {S T U : List Draw} {x : Draw} (hS : S = T ++ U) (hT : ∀ y ∈ T, y.number < x.number) (hU : ∀ y ∈ U, x.number < y.number) : ∀ i, i ≤ U.length → stopD S x (T.length + i) = T.length
  | 0, _ => by
    cases hl : T.length with
    | zero => rfl
    | succ m =>
      have hm : m < T.length := by omega
      rw [Nat.add_zero, stopD, hS, List.getElem?_append_left hm, List.getElem?_eq_getElem hm]
      simp only
      rw [if_neg (by have := hT T[m] (List.getElem_mem hm); omega)]
  | i + 1, h => by
    have hi : i < U.length := by omega
    rw [← Nat.add_assoc, stopD, hS, List.getElem?_append_right (by omega), Nat.add_sub_cancel_left, List.getElem?_eq_getElem hi]
    simp only
    rw [if_pos (hU U[i] (List.getElem_mem hi)), ← hS]
    exact stop_ofI hS hT hU i (by omega)
theorem sort_prefixI {l : List Draw} (hp : (l.map (·.number)).Pairwise (· < ·)) (x : Draw) : ∀ k, k ≤ l.length → sortD (l ++ [x]) k = l.take k
  | 0, _ => by simp [sortD]
  | k + 1, h => by
    have hk : k < l.length := by omega
    have ih := sort_prefixI hp x k (by omega)
    have hlen : (l.take k).length = k := by simp; omega
    have hs := stop_ofI (S := l.take k) (T := l.take k) (U := []) (x := l[k]) (by simp) (fun y hy => by
      obtain ⟨i, hi, rfl⟩ := List.mem_iff_getElem.1 hy
      rw [hlen] at hi
      have := List.pairwise_iff_getElem.1 hp i k (by simp; omega) (by simp; omega) hi
      simpa using this) (by simp) 0 (by simp)
    rw [hlen, Nat.add_zero] at hs
    rw [sortD, List.getElem?_append_left hk, List.getElem?_eq_getElem hk]
    simp only
    rw [ih, hs, putD, List.take_of_length_le (by omega), List.drop_eq_nil_of_le (by omega), List.take_add_one, List.getElem?_eq_getElem hk]
    rfl
theorem take_ltI (x : Draw) : ∀ (l : List Draw), ∀ y ∈ l.takeWhile (fun y => decide (y.number < x.number)), y.number < x.number
  | [], y, h => by simp at h
  | a :: r, y, h => by
    rw [List.takeWhile_cons] at h
    split at h
    · rename_i ha
      rcases List.mem_cons.1 h with rfl | h
      · simpa using ha
      · exact take_ltI x r y h
    · simp at h
theorem drop_gtI (x : Draw) : ∀ (l : List Draw), (l.map (·.number)).Pairwise (· < ·) → (∀ y ∈ l, y.number ≠ x.number) → ∀ y ∈ l.dropWhile (fun y => decide (y.number < x.number)), x.number < y.number
  | [], _, _, y, h => by simp at h
  | a :: r, hp, hne, y, h => by
    rw [List.map_cons, List.pairwise_cons] at hp
    rw [List.dropWhile_cons] at h
    split at h
    · exact drop_gtI x r hp.2 (fun z hz => hne z (List.mem_cons_of_mem _ hz)) y h
    · rename_i ha
      have h1 : x.number < a.number := by
        have := hne a (by simp)
        simp at ha
        omega
      rcases List.mem_cons.1 h with rfl | h
      · exact h1
      · have := hp.1 y.number (List.mem_map_of_mem h); omega
theorem sort_insI {l : List Draw} {x : Draw} (hp : (l.map (·.number)).Pairwise (· < ·)) (hne : ∀ y ∈ l, y.number ≠ x.number) : sortD (l ++ [x]) (l.length + 1) = insDI l x := by
  have hs := stop_ofI (S := l) (x := x) (List.takeWhile_append_dropWhile (p := fun y => decide (y.number < x.number)) (l := l)).symm (take_ltI x l) (drop_gtI x l hp hne) _ (Nat.le_refl _)
  rw [← List.length_append, List.takeWhile_append_dropWhile] at hs
  rw [sortD, List.getElem?_append_right (Nat.le_refl _), Nat.sub_self]
  simp only [List.getElem?_cons_zero]
  rw [sort_prefixI hp x _ (Nat.le_refl _), List.take_of_length_le (Nat.le_refl _), hs]
  unfold putD insDI spotDI
  simp
theorem valid_weighsI {b : Bale} (h : valid b = true) : (b.weighs.map (·.number)).Pairwise (· < ·) := by
  unfold valid chk2 at h
  simp only [Bool.and_eq_true] at h
  exact (rise_lt _ _ h.2.1.2).1
theorem stop_ofWI {S T U : List Weigh} {x : Weigh} (hS : S = T ++ U) (hT : ∀ y ∈ T, y.number < x.number) (hU : ∀ y ∈ U, x.number < y.number) : ∀ i, i ≤ U.length → stopW S x (T.length + i) = T.length
  | 0, _ => by
    cases hl : T.length with
    | zero => rfl
    | succ m =>
      have hm : m < T.length := by omega
      rw [Nat.add_zero, stopW, hS, List.getElem?_append_left hm, List.getElem?_eq_getElem hm]
      simp only
      rw [if_neg (by have := hT T[m] (List.getElem_mem hm); omega)]
  | i + 1, h => by
    have hi : i < U.length := by omega
    rw [← Nat.add_assoc, stopW, hS, List.getElem?_append_right (by omega), Nat.add_sub_cancel_left, List.getElem?_eq_getElem hi]
    simp only
    rw [if_pos (hU U[i] (List.getElem_mem hi)), ← hS]
    exact stop_ofWI hS hT hU i (by omega)
theorem sort_prefixWI {l : List Weigh} (hp : (l.map (·.number)).Pairwise (· < ·)) (x : Weigh) : ∀ k, k ≤ l.length → sortW (l ++ [x]) k = l.take k
  | 0, _ => by simp [sortW]
  | k + 1, h => by
    have hk : k < l.length := by omega
    have ih := sort_prefixWI hp x k (by omega)
    have hlen : (l.take k).length = k := by simp; omega
    have hs := stop_ofWI (S := l.take k) (T := l.take k) (U := []) (x := l[k]) (by simp) (fun y hy => by
      obtain ⟨i, hi, rfl⟩ := List.mem_iff_getElem.1 hy
      rw [hlen] at hi
      have := List.pairwise_iff_getElem.1 hp i k (by simp; omega) (by simp; omega) hi
      simpa using this) (by simp) 0 (by simp)
    rw [hlen, Nat.add_zero] at hs
    rw [sortW, List.getElem?_append_left hk, List.getElem?_eq_getElem hk]
    simp only
    rw [ih, hs, putW, List.take_of_length_le (by omega), List.drop_eq_nil_of_le (by omega), List.take_add_one, List.getElem?_eq_getElem hk]
    rfl
theorem take_ltWI (x : Weigh) : ∀ (l : List Weigh), ∀ y ∈ l.takeWhile (fun y => decide (y.number < x.number)), y.number < x.number
  | [], y, h => by simp at h
  | a :: r, y, h => by
    rw [List.takeWhile_cons] at h
    split at h
    · rename_i ha
      rcases List.mem_cons.1 h with rfl | h
      · simpa using ha
      · exact take_ltWI x r y h
    · simp at h
theorem drop_gtWI (x : Weigh) : ∀ (l : List Weigh), (l.map (·.number)).Pairwise (· < ·) → (∀ y ∈ l, y.number ≠ x.number) → ∀ y ∈ l.dropWhile (fun y => decide (y.number < x.number)), x.number < y.number
  | [], _, _, y, h => by simp at h
  | a :: r, hp, hne, y, h => by
    rw [List.map_cons, List.pairwise_cons] at hp
    rw [List.dropWhile_cons] at h
    split at h
    · exact drop_gtWI x r hp.2 (fun z hz => hne z (List.mem_cons_of_mem _ hz)) y h
    · rename_i ha
      have h1 : x.number < a.number := by
        have := hne a (by simp)
        simp at ha
        omega
      rcases List.mem_cons.1 h with rfl | h
      · exact h1
      · have := hp.1 y.number (List.mem_map_of_mem h); omega
theorem sort_insWI {l : List Weigh} {x : Weigh} (hp : (l.map (·.number)).Pairwise (· < ·)) (hne : ∀ y ∈ l, y.number ≠ x.number) : sortW (l ++ [x]) (l.length + 1) = insWI l x := by
  have hs := stop_ofWI (S := l) (x := x) (List.takeWhile_append_dropWhile (p := fun y => decide (y.number < x.number)) (l := l)).symm (take_ltWI x l) (drop_gtWI x l hp hne) _ (Nat.le_refl _)
  rw [← List.length_append, List.takeWhile_append_dropWhile] at hs
  rw [sortW, List.getElem?_append_right (Nat.le_refl _), Nat.sub_self]
  simp only [List.getElem?_cons_zero]
  rw [sort_prefixWI hp x _ (Nat.le_refl _), List.take_of_length_le (Nat.le_refl _), hs]
  unfold putW insWI spotWI
  simp
end Go.Proofs.YtkpengeaolcjhaaDoor
