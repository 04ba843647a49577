/- slices.Sort at a few ints: insertion sort (and the few steps that lead there). -/
import Derived.Test.YtkpengeaolcjhaaGreatDoorPkMlBoundsCardD
import Derived.Test.YtkpengeaolcjhaaGreatDoorPkMlBoundsCardO
import Derived.Test.YtkpengeaolcjhaaGreatDoorPkMlBoundsCardV
import Derived.Test.YtkpengeaolcjhaaGreatDoorPkMlBoundsCardN
import Derived.Test.YtkpengeaolcjhaaGreatDoorPkMlBoundsCardP
import Derived.Test.YtkpengeaolcjhaaGreatDoorPkMlBoundsCardR
namespace Go.Proofs.YtkpengeaolcjhaaGreatDoor
open Go.RowKit Go.Shelf Go.Lib
set_option maxRecDepth 100000
set_option linter.unusedSimpArgs false

theorem flat_setI : ∀ (l : List Int) (i : Nat) (x : Int), (l.flatMap encI).set i (.int .i64 x) = (l.set i x).flatMap encI
  | [], i, x => by simp
  | y :: l, 0, x => rfl
  | y :: l, i + 1, x => by
    have ih := flat_setI l i x
    rw [List.set_cons_succ, List.flatMap_cons, List.flatMap_cons, ← ih]
    rfl
theorem own_putI {w : World} {base g n cap i : Nat} {m : List Int} {x : Int} (h : Own encI 3 1 w base (.slice (some ⟨g, 0, none⟩) n cap) m) :
    Own encI 3 1 (w.setCell ⟨g, i, none⟩ (.int .i64 x)) base (.slice (some ⟨g, 0, none⟩) n cap) (m.set i x) := by
  have hn : n = m.length := by
    obtain ⟨_, _, e, _⟩ := h.sl (enc := encI) (fun _ => rfl)
    injection e with _ e _
  unfold Own at *
  rw [List.length_set, ← hn, ← flat_setI m i x]
  rw [← hn] at h
  exact own_cellset h
theorem own_atI {W : World} {base g n c k : Nat} {m : List Int} {y : Int} (h : Own encI 3 1 W base (.slice (some ⟨g, 0, none⟩) n c) m) (hy : m[k]? = some y) :
    W.cell? ⟨g, k, none⟩ = some (.int .i64 y) ∧ g < W.heap.size := by
  have hsl : SlI W (.slice (some ⟨g, 0, none⟩) n c) m := Own.sl (enc := encI) (fun _ => rfl) h
  have hk : k < n := by
    have h1 := (List.getElem?_eq_some_iff.1 hy).1
    obtain ⟨_, _, e, _⟩ := hsl
    injection e with _ e _
    omega
  obtain ⟨bb, off, y', e1, hy', hb, hc⟩ := hsl.at_ hk
  obtain ⟨rfl, rfl⟩ : g = bb ∧ 0 = off := by simpa using e1
  rw [hy] at hy'
  injection hy' with hy'
  subst hy'
  have := SlI.cell hc (Ext.refl _)
  rw [Nat.zero_add] at this
  exact ⟨this, hb⟩
def putI (S : List Int) (x : Int) (j : Nat) : List Int := S.take j ++ x :: S.drop j
theorem putI_at (S T : List Int) (x : Int) {j : Nat} (hj : j ≤ S.length) : (putI S x j ++ T)[j]? = some x := by
  unfold putI
  rw [List.append_assoc, List.getElem?_append_right (by simp; omega)]
  simp [List.length_take, Nat.min_eq_left hj]
theorem putI_before (S T : List Int) (x : Int) {j : Nat} (hj : j < S.length) : (putI S x (j + 1) ++ T)[j]? = S[j]? := by
  unfold putI
  rw [List.append_assoc, List.getElem?_append_left (by simp; omega), List.getElem?_take, if_pos (by omega)]
theorem putI_swap (S T : List Int) (x y : Int) {j : Nat} (hy : S[j]? = some y) : ((putI S x (j + 1) ++ T).set (j + 1) y).set j x = putI S x j ++ T := by
  have hj : j < S.length := (List.getElem?_eq_some_iff.1 hy).1
  have h1 : S.take (j + 1) = S.take j ++ [y] := by rw [List.take_add_one, hy]; rfl
  have h2 : S.drop j = y :: S.drop (j + 1) := drop_at hy
  unfold putI
  rw [h1, h2]
  have hl : (S.take j).length = j := by simp; omega
  rw [show List.take j S ++ [y] ++ x :: List.drop (j + 1) S ++ T = List.take j S ++ (y :: x :: (List.drop (j + 1) S ++ T)) by simp]
  rw [List.set_append_right (j + 1) y (by omega), List.set_append_right j x (by omega), hl]
  rw [show j + 1 - j = 1 by omega, Nat.sub_self]
  simp
theorem putI_end (S T : List Int) (x : Int) : putI S x S.length ++ T = S ++ (x :: T) := by unfold putI; simp
/-- The first numbers, in order. -/
def ordI (l : List Int) (k : Nat) : List Int := (l.take k).foldl insI []
theorem ordI_succ {l : List Int} {k : Nat} {x : Int} (h : l[k]? = some x) : ordI l (k + 1) = insI (ordI l k) x := by
  unfold ordI
  rw [List.take_add_one, h, List.foldl_append]
  rfl
theorem ins_fold : ∀ (l s : List Int), s.Pairwise (· ≤ ·) → (l.foldl insI s).Pairwise (· ≤ ·) ∧ (l.foldl insI s).Perm (l ++ s)
  | [], s, h => ⟨h, List.Perm.refl _⟩
  | x :: l, s, h => by
    rw [List.foldl_cons]
    obtain ⟨h1, h2⟩ := ins_fold l (insI s x) (insI_sorted h x)
    exact ⟨h1, h2.trans (((insI_perm s x).append_left l).trans List.perm_middle)⟩
theorem ordI_ok (l : List Int) (k : Nat) : (ordI l k).Pairwise (· ≤ ·) ∧ (ordI l k).Perm (l.take k) := by
  have := ins_fold (l.take k) [] List.Pairwise.nil
  rw [List.append_nil] at this
  exact this
theorem ordI_len {l : List Int} {k : Nat} (h : k ≤ l.length) : (ordI l k).length = k := by rw [(ordI_ok l k).2.length_eq, List.length_take]; omega
/-- All behind j are greater. -/
def Gt (S : List Int) (x : Int) (j : Nat) : Prop := ∀ i y, j ≤ i → S[i]? = some y → x < y
theorem stopI {S : List Int} {x : Int} {j : Nat} (hs : S.Pairwise (· ≤ ·)) (hj : j ≤ S.length) (hg : Gt S x j) (h : ∀ y, j ≠ 0 → S[j - 1]? = some y → y ≤ x) : putI S x j = insI S x := by
  have e : spotI S x = j := spotI_of (fun i y hi hy => by
    obtain ⟨z, hz⟩ : ∃ z, S[j - 1]? = some z := ⟨_, List.getElem?_eq_getElem (by omega)⟩
    have := h z (by omega) hz
    have := pair_le hs hy hz (by omega)
    omega) hj fun y hy => hg j y (Nat.le_refl _) hy
  unfold insI
  rw [e]
  rfl

set_option maxHeartbeats 2000000 in
theorem insSort_any (l : List Int) (g n c base : Nat) (w : World) (hn : n = l.length) (hn0 : 0 < n) (hn20 : n ≤ 12) (ho : Own encI 3 1 w base (.slice (some ⟨g, 0, none⟩) n c) l) :
    Calls Tryz.prog 118 #[.slice (some ⟨g, 0, none⟩) n c, .int .i64 0, .int .i64 (n : Int)] w fun e w' => (∃ v, e = .returned v) ∧ Own encI 3 1 w' base (.slice (some ⟨g, 0, none⟩) n c) (ordI l n) ∧ w.grownBy w' (some g) := by
  have HO := Lib.hid ho
  have HN := Lib.hid hn
  clear ho hn
  go_enter Tryz.func118, Tryz.ntmps118
  go_wp2
  go_loopg [6, 7] n (fun gg s8 _ wr => ∃ i : Nat, 1 ≤ i ∧ i ≤ n ∧ n - i ≤ gg ∧ s8 = .int .i64 (i : Int) ∧ Aside (Own encI 3 1 wr base (.slice (some ⟨g, 0, none⟩) n c) (ordI l i ++ l.drop i)) ∧ Aside (w.grownBy wr (some g)))
  case atStart => exact ⟨1, by omega, by omega, by omega, rfl, by
    have h0 : 0 < l.length := by have := HN.out; omega
    have : ordI l 1 ++ l.drop 1 = l := by
      match l, h0 with
      | x :: r, _ => simp [ordI, insI, spotI]
    rw [this]; exact HO.out, World.grownBy.refl _ _⟩
  case round =>
    obtain ⟨i, hi1, hin, hgg, rfl, OW, GW⟩ := hrel
    by_cases hiN : i < n
    · have hiz : (i : Int) < (n : Int) := by omega
      obtain ⟨x, hx⟩ : ∃ x, l[i]? = some x := ⟨_, List.getElem?_eq_getElem (by have := HN.out; omega)⟩
      have HX := Lib.hid hx
      have HSL := Lib.hid (ordI_len (l := l) (k := i) (by have := HN.out; omega))
      have HSS := Lib.hid (ordI_succ hx)
      have HSP := Lib.hid (ordI_ok l i).1
      have HDR := Lib.hid (show ordI l i ++ l.drop i = putI (ordI l i) x i ++ l.drop (i + 1) by
        rw [drop_at hx]
        have := putI_end (ordI l i) (l.drop (i + 1)) x
        rw [HSL.out] at this
        exact this.symm)
      rw [HDR.out] at OW
      clear hx
      generalize ordI l i = S at *
      generalize hTT : l.drop (i + 1) = T at *
      have HTT := Lib.hid hTT; clear hTT
      obtain ⟨wo, hwo⟩ : ∃ wo : World, wo = wr := ⟨_, rfl⟩
      subst hwo
      go_wp2_with fail
      go_loopg [7] i (fun gg s9 wr => ∃ j : Nat, j ≤ i ∧ j ≤ gg ∧ s9 = .int .i64 (j : Int) ∧ Aside (Own encI 3 1 wr base (.slice (some ⟨g, 0, none⟩) n c) (putI S x j ++ T)) ∧ Aside (Gt S x j) ∧ Aside (w.grownBy wr (some g)))
      case atStart => exact ⟨i, by omega, by omega, rfl, OW.out, (show Gt S x i from fun k y hk hy => by have := (List.getElem?_eq_some_iff.1 hy).1; have := HSL.out; omega), GW.out⟩
      case round =>
        obtain ⟨j, hji, hgj, rfl, OJ, ST, GJ⟩ := hrel
        by_cases hj0 : j = 0
        · subst hj0
          have HFI := Lib.hid (show Own encI 3 1 wr base (.slice (some ⟨g, 0, none⟩) n c) (ordI l (i + 1) ++ T) by rw [HSS.out, ← stopI HSP.out (Nat.zero_le _) ST.out (fun y h _ => absurd rfl h)]; exact OJ.out)
          go_wp2_with fail
          refine wp_region_tame (fun W => Ext wr W) (fun W W' => Ext W W') (by kernel_rfl) 49 rfl (by decide +kernel) (Ext.refl _).drew ?_
          repeat (apply tame_q rfl; (intro ρ W hC hr hD; (obtain ⟨hrc, hrg, hrf, hrs⟩ := hr); (simp [go_sem] at hD); go_simp; first | exact ⟨⟨hC, Ext.refl _⟩, rfl⟩ | exact ⟨⟨hC, RS.refl _⟩, rfl⟩ | exact rfl); simp only [List.nil_append, List.cons_append])
          refine tame_end 49 rfl rfl (fun ρ W hC hr hF => ?_)
          obtain ⟨hrc, hrg, hrf, hrs⟩ := hr
          simp [go_sem] at hF
          apply frame_to
          · go_simp
            exact rfl
          have HFI := Lib.hid (HFI.out.ext hC)
          have GJ2 := Lib.hid (grown_ext GJ.out hC)
          clear hF hrs hrc hrg hrf hC
          go_wp2
          go_roundg (n - (i + 1))
          case measure => omega
          case rel => exact ⟨i + 1, by omega, by omega, by omega, by simp, by rw [HTT.out]; exact HFI.out, GJ2.out⟩
        · obtain ⟨k, hk⟩ : ∃ k, j = k + 1 := ⟨j - 1, by omega⟩
          have HK := Lib.hid hk
          have hkn : k < n := by omega
          have hjn : j < n := by omega
          have hjS : j ≤ S.length := by have := HSL.out; omega
          obtain ⟨y, hy⟩ : ∃ y, S[k]? = some y := ⟨_, List.getElem?_eq_getElem (by omega)⟩
          have HY := Lib.hid hy
          have hmj : (putI S x j ++ T)[j]? = some x := putI_at S T x hjS
          have hmk : (putI S x j ++ T)[k]? = some y := by rw [HK.out, putI_before S T x (by have := HK.out; omega)]; exact HY.out
          have hml : (putI S x j ++ T).length = n := by have := OJ.out.sl (fun _ => rfl) (enc := encI); obtain ⟨_, _, e, _⟩ := this; injection e with _ e _; exact e.symm
          have cx := fun W (h : Ext wr W) => own_atI (OJ.out.ext h) hmj
          have cy := fun W (h : Ext wr W) => own_atI (OJ.out.ext h) hmk
          have x0 := fun W (h : Ext wr W) => (cx W h).1
          have y0 := fun W (h : Ext wr W) => (cy W h).1
          have hjz : (0 : Int) < (j : Int) := by omega
          have hjp : 0 < j := by omega
          have hjz2 : (j : Int) < (n : Int) := by omega
          have hjs : (j : Int) - 1 = (k : Int) := by omega
          have hkz2 : (k : Int) < (n : Int) := by omega
          clear hk hy cx cy
          have hwk := wrap_nat (k := k) (by omega)
          by_cases hxy : x < y
          · have HST := Lib.hid (show Gt S x k from fun q z hq hz => by
              by_cases hqk : q = k
              · subst hqk
                rw [HY.out] at hz
                injection hz with hz
                omega
              · exact ST.out q z (by have := HK.out; omega) hz)
            have HSW := Lib.hid (show ((putI S x j ++ T).set j y).set k x = putI S x k ++ T by rw [HK.out]; exact putI_swap S T x y HY.out)
            go_wp2_with fail
            refine wp_region_tame (fun W => Ext wr W) (fun W W' => Ext W W') (by kernel_rfl) 49 rfl (by decide +kernel) (Ext.refl _).drew ?_
            repeat (apply tame_q rfl; (intro ρ W hC hr hD; (obtain ⟨hrc, hrg, hrf, hrs⟩ := hr); (simp [go_sem] at hD); go_simp; first | exact ⟨⟨hC, Ext.refl _⟩, rfl⟩ | exact ⟨⟨hC, RS.refl _⟩, rfl⟩ | exact rfl); simp only [List.nil_append, List.cons_append])
            apply tame_q rfl
            · intro ρ W hC hr hD
              obtain ⟨hrc, hrg, hrf, hrs⟩ := hr
              simp [go_sem] at hD
              go_simp
              refine (less_any x y W).mono ?_
              rintro e w' ⟨rfl, hE⟩
              rw [decide_eq_true hxy]
              exact ⟨_, rfl, ⟨hC.trans hE, hE⟩, rfl⟩
            simp only [List.nil_append, List.cons_append]
            repeat (apply tame_q rfl; (intro ρ W hC hr hD; (obtain ⟨hrc, hrg, hrf, hrs⟩ := hr); (simp [go_sem] at hD); go_simp; first | exact ⟨⟨hC, Ext.refl _⟩, rfl⟩ | exact ⟨⟨hC, RS.refl _⟩, rfl⟩ | exact rfl); simp only [List.nil_append, List.cons_append])
            refine tame_end 49 rfl rfl (fun ρ W hC hr hF => ?_)
            obtain ⟨hrc, hrg, hrf, hrs⟩ := hr
            simp [go_sem] at hF
            apply frame_to
            · go_simp
              exact rfl
            have OJ2 := Lib.hid (OJ.out.ext hC)
            have GJ2 := Lib.hid (grown_ext GJ.out hC)
            clear hF hrs hrc hrg hrf x0 y0 hC
            generalize hm0 : putI S x j ++ T = m0 at *
            go_wp2_with fail
            refine wp_region_tameN_cut (fun W' => W.grownBy W' (some g) ∧ ∃ m, Own encI 3 1 W' base (.slice (some ⟨g, 0, none⟩) n c) m ∧ m.length = n) (fun A B => Own encI 3 1 A base (.slice (some ⟨g, 0, none⟩) n c) (m0.set j y) → Own encI 3 1 B base (.slice (some ⟨g, 0, none⟩) n c) (m0.set j y)) (fun W' => Own encI 3 1 W' base (.slice (some ⟨g, 0, none⟩) n c) m0) 15 (by kernel_rfl) 49 rfl _ rfl (by decide +kernel) (by decide +kernel) (by decide +kernel) rfl ⟨⟨rfl, rfl, rfl, Nat.le_refl _, fun _ _ _ => rfl⟩, m0, OJ2.out, hml⟩ OJ2.out ?_
            simp only [List.dropLast]
            repeat (apply tameN_q rfl; (intro ρ W hC hN hr hD; (obtain ⟨hrc, hrg, hrf, hrs⟩ := hr); (simp [go_sem] at hD); go_simp; first | exact ⟨⟨hC, fun h => h, fun _ h => h⟩, rfl⟩ | exact ⟨hC, fun h => h, fun _ h => h⟩ | exact ⟨⟨hC, ⟨fun h => h, fun h => h⟩, fun _ h => h⟩, rfl⟩ | exact ⟨hC, ⟨fun h => h, fun h => h⟩, fun _ h => h⟩ | exact rfl); simp only [List.nil_append, List.cons_append])
            apply tameN_q rfl
            · intro ρ W' hC hN hr hD
              obtain ⟨hrc, hrg, hrf, hrs⟩ := hr
              simp [go_sem] at hD
              obtain ⟨b0, bl⟩ := own_atI (hN rfl) hmk
              go_simp
              first | exact ⟨⟨hC, fun h => h, fun _ h => h⟩, rfl⟩ | exact ⟨hC, fun h => h, fun _ h => h⟩
            simp only [List.nil_append, List.cons_append]
            repeat (apply tameN_q rfl; (intro ρ W hC hN hr hD; (obtain ⟨hrc, hrg, hrf, hrs⟩ := hr); (simp [go_sem] at hD); go_simp; first | exact ⟨⟨hC, fun h => h, fun _ h => h⟩, rfl⟩ | exact ⟨hC, fun h => h, fun _ h => h⟩ | exact ⟨⟨hC, ⟨fun h => h, fun h => h⟩, fun _ h => h⟩, rfl⟩ | exact ⟨hC, ⟨fun h => h, fun h => h⟩, fun _ h => h⟩ | exact rfl); simp only [List.nil_append, List.cons_append])
            apply tameN_q rfl
            · intro ρ W' hC hN hr hD
              obtain ⟨hrc, hrg, hrf, hrs⟩ := hr
              simp [go_sem] at hD
              obtain ⟨b0, bl⟩ := own_atI (hN rfl) hmj
              go_simp
              first | exact ⟨⟨hC, fun h => h, fun _ h => h⟩, rfl⟩ | exact ⟨hC, fun h => h, fun _ h => h⟩
            simp only [List.nil_append, List.cons_append]
            repeat (apply tameN_q rfl; (intro ρ W hC hN hr hD; (obtain ⟨hrc, hrg, hrf, hrs⟩ := hr); (simp [go_sem] at hD); go_simp; first | exact ⟨⟨hC, fun h => h, fun _ h => h⟩, rfl⟩ | exact ⟨hC, fun h => h, fun _ h => h⟩ | exact ⟨⟨hC, ⟨fun h => h, fun h => h⟩, fun _ h => h⟩, rfl⟩ | exact ⟨hC, ⟨fun h => h, fun h => h⟩, fun _ h => h⟩ | exact rfl); simp only [List.nil_append, List.cons_append])
            apply tameN_n (fun _ W' => Own encI 3 1 W' base (.slice (some ⟨g, 0, none⟩) n c) (m0.set j y)) (fun _ A B _ hR h => hR h)
            · intro ρ W' hC hN hr hD
              obtain ⟨hrc, hrg, hrf, hrs⟩ := hr
              simp [go_sem] at hD
              have h0 := hN rfl
              obtain ⟨a0, al⟩ := own_atI h0 hmj
              have df : ∀ k, W'.frozen? ⟨g, k, none⟩ = false := fun k => own_frozen h0 k
              have h4 := own_putI (x := y) (i := j) h0
              have H4 := Lib.hid h4; have HC := Lib.hid hC.1
              clear h4 h0 hN hC
              go_simp
              exact ⟨⟨⟨grown_set HC.out (p := ⟨g, j, none⟩) (.inl rfl) _, _, H4.out, by rw [List.length_set]; exact hml⟩, fun _ => H4.out, fun h => by cases h⟩, H4.out⟩
            simp only [List.nil_append, List.cons_append]
            repeat (apply tameN_q rfl; (intro ρ W hC hN hr hD; (obtain ⟨hrc, hrg, hrf, hrs⟩ := hr); (simp [go_sem] at hD); go_simp; first | exact ⟨⟨hC, fun h => h, fun _ h => h⟩, rfl⟩ | exact ⟨hC, fun h => h, fun _ h => h⟩ | exact ⟨⟨hC, ⟨fun h => h, fun h => h⟩, fun _ h => h⟩, rfl⟩ | exact ⟨hC, ⟨fun h => h, fun h => h⟩, fun _ h => h⟩ | exact rfl); simp only [List.nil_append, List.cons_append])
            refine tameN_end 49 rfl rfl (fun ρ W' hC hr hF => ?_)
            obtain ⟨hrc, hrg, hrf, hrs⟩ := hr
            simp [go_sem] at hF
            obtain ⟨f37, f38, f39, f40, f41, f42, f43, f44, f45, f46, f47, f48, f49, f50, f51, fS, f52⟩ := hF
            apply frame_to
            · go_simp
              exact rfl
            have OJ4 := Lib.hid fS
            have GJ3 := Lib.hid (grown_tr GJ2.out hC.1)
            clear f37 f38 f39 f40 f41 f42 f43 f44 f45 f46 f47 f48 f49 f50 f51 fS f52 hrs hrc hrg hrf hC
            have hne : ¬ j = k := by have := HK.out; omega
            obtain ⟨b0, bl⟩ := own_atI OJ4.out (show (m0.set j y)[k]? = some y by rw [List.getElem?_set, if_neg hne]; exact hmk)
            have df : ∀ k, W'.frozen? ⟨g, k, none⟩ = false := fun k => own_frozen OJ4.out k
            have OJ5 := Lib.hid (own_putI (x := x) (i := k) OJ4.out)
            rw [HSW.out] at OJ5
            clear hmj hmk
            go_wp2
            go_roundg k
            case measure => have := HK.out; omega
            case rel => exact ⟨k, by have := HK.out; omega, by omega, rfl, OJ5.out, HST.out, grown_set GJ3.out (p := ⟨g, k, none⟩) (.inl rfl) _⟩
          · have hcd : decide (x < y) = false := decide_eq_false hxy
            have HFI := Lib.hid (show Own encI 3 1 wr base (.slice (some ⟨g, 0, none⟩) n c) (ordI l (i + 1) ++ T) by
              rw [HSS.out, ← stopI HSP.out hjS ST.out (fun z _ hz => by
                rw [HK.out, Nat.add_sub_cancel, HY.out] at hz
                injection hz with hz
                omega)]
              exact OJ.out)
            go_wp2_with fail
            refine wp_region_tame (fun W => Ext wr W) (fun W W' => Ext W W') (by kernel_rfl) 49 rfl (by decide +kernel) (Ext.refl _).drew ?_
            repeat (apply tame_q rfl; (intro ρ W hC hr hD; (obtain ⟨hrc, hrg, hrf, hrs⟩ := hr); (simp [go_sem] at hD); go_simp; first | exact ⟨⟨hC, Ext.refl _⟩, rfl⟩ | exact ⟨⟨hC, RS.refl _⟩, rfl⟩ | exact rfl); simp only [List.nil_append, List.cons_append])
            apply tame_q rfl
            · intro ρ W hC hr hD
              obtain ⟨hrc, hrg, hrf, hrs⟩ := hr
              simp [go_sem] at hD
              go_simp
              refine (less_any x y W).mono ?_
              rintro e w' ⟨rfl, hE⟩
              rw [hcd]
              exact ⟨_, rfl, ⟨hC.trans hE, hE⟩, rfl⟩
            simp only [List.nil_append, List.cons_append]
            repeat (apply tame_q rfl; (intro ρ W hC hr hD; (obtain ⟨hrc, hrg, hrf, hrs⟩ := hr); (simp [go_sem] at hD); go_simp; first | exact ⟨⟨hC, Ext.refl _⟩, rfl⟩ | exact ⟨⟨hC, RS.refl _⟩, rfl⟩ | exact rfl); simp only [List.nil_append, List.cons_append])
            refine tame_end 49 rfl rfl (fun ρ W hC hr hF => ?_)
            obtain ⟨hrc, hrg, hrf, hrs⟩ := hr
            simp [go_sem] at hF
            apply frame_to
            · go_simp
              exact rfl
            have HFI := Lib.hid (HFI.out.ext hC)
            have GJ2 := Lib.hid (grown_ext GJ.out hC)
            clear hF hrs hrc hrg hrf x0 y0 hC
            go_wp2
            go_roundg (n - (i + 1))
            case measure => omega
            case rel => exact ⟨i + 1, by omega, by omega, by omega, by simp, by rw [HTT.out]; exact HFI.out, GJ2.out⟩
    · have hie : i = n := by omega
      subst hie
      have HF := Lib.hid (show ordI l i ++ l.drop i = ordI l i by rw [List.drop_eq_nil_of_le (by have := HN.out; omega), List.append_nil])
      go_wp2
      refine bodyPost_end (results_none rfl _ _ _) rfl ?_
      exact ⟨⟨_, rfl⟩, by rw [← HF.out]; exact OW.out, GW.out⟩
end Go.Proofs.YtkpengeaolcjhaaGreatDoor
/- slices.DeleteFunc at ints; mill.Needs and the reference's; Without of both. -/
namespace Go.Proofs.YtkpengeaolcjhaaGreatDoor
open Go.RowKit Go.Shelf Go.Lib
set_option maxRecDepth 100000
set_option linter.unusedSimpArgs false

theorem deleteI_any (tf : FuncId) (tlb : Array Value) (et : ∀ args w, (callFunc tf args).run Tryz.prog w = .ok (.enter tf args) w) (p : Int → Bool) (l : List Int) (v : Value) (base : Nat) (w : World) (hb : base ≤ w.heap.size) (ho : Own encI 3 1 w base v l)
    (hp : ∀ W x, Below base w W → Calls Tryz.prog tf (#[Value.int .i64 x] ++ tlb) W fun e W' => e = .returned (.bool (p x)) ∧ Ext W W') :
    Calls Tryz.prog 58 #[v, .func (.func tf) #[] tlb] w fun e w' => ∃ v', e = .returned v' ∧ Own encI 3 1 w' base v' (l.filter fun x => !p x) ∧ w.grownBy w' v.ownBlock := by
  have HP := Lib.hid hp
  have HO := Lib.hid ho
  have hsl : SlI w v l := Own.sl (enc := encI) (fun _ => rfl) ho
  obtain ⟨A, n, c, rfl, hn, hlc, hcm⟩ := hsl.form
  have HSL := Lib.hid hsl
  have HPR := Lib.hid (show Pred (fun n => .int .i64 n) tf tlb p l w from fun W x _ hE => hp W x (Below.mono hE hb))
  clear hp ho hsl
  go_enter Tryz.func58, Tryz.ntmps58
  go_wp2_with fail
  refine (f96_any tf tlb et p l _ w HSL.out HPR.out).mono ?_
  rintro e w1 ⟨rfl, hE⟩
  have HB1 := Lib.hid hE
  have HO1 := Lib.hid (HO.out.ext hE)
  have hz1 := hE.size
  rcases idxF_cases p l with ⟨hi, hall⟩ | ⟨k, x, hi, hx, hpx, hlt⟩
  · rw [hi]
    have HF := Lib.hid (show (l.filter fun x => !p x) = l from List.filter_eq_self.2 fun x hx => by rw [hall x hx]; rfl)
    clear hE hall
    go_wp2
    go_ret
    exact ⟨_, rfl, by rw [HF.out]; exact HO1.out, ext_row HB1.out _⟩
  · rw [hi]
    have hkn : k < n := by rw [hn.out]; exact (List.getElem?_eq_some_iff.1 hx).1
    have hnz : (n : Int) ≤ 9223372036854775807 := by omega
    have hk1 : ¬ ((k : Int) = -1) := by omega
    have HF0 := Lib.hid (show l.take k = (l.take (k + 1)).filter fun x => !p x by
      rw [List.take_add_one, hx, List.filter_append]
      have h1 : (l.take k).filter (fun x => !p x) = l.take k := List.filter_eq_self.2 fun y hy => by
        obtain ⟨j, hj⟩ := List.mem_iff_getElem?.1 hy
        rw [List.getElem?_take] at hj
        split at hj
        · rename_i hjk
          rw [hlt j y hjk hj]; rfl
        · cases hj
      rw [h1]
      simp [hpx])
    obtain ⟨g, cap, hv, hbg⟩ : ∃ g cap, (Value.slice A n c) = .slice (some ⟨g, 0, none⟩) n cap ∧ base ≤ g := by
      obtain ⟨m, rfl⟩ : ∃ m, n = m + 1 := ⟨n - 1, by omega⟩
      have h9 := HO.out
      unfold Own at h9
      rw [← hn.out] at h9
      obtain ⟨g, cap, e1, e2⟩ := own_succ h9
      exact ⟨g, cap, e1, e2⟩
    injection hv with hv1 _ hv3
    subst hv1 hv3
    clear hE hi hx hpx hlt
    go_wp2
    go_loopg [5, 6, 7] n (fun gg s5 s6 _ wr => ∃ (i j : Nat) (m : List Int), i < j ∧ j ≤ n ∧ n - j ≤ gg ∧ s5 = .int .i64 (i : Int) ∧ s6 = .int .i64 (j : Int) ∧ m.length = n ∧ Aside (Own encI 3 1 wr base (.slice (some ⟨g, 0, none⟩) n c) m) ∧ Aside (m.take i = (l.take j).filter fun x => !p x) ∧ Aside (∀ t, j ≤ t → m[t]? = l[t]?) ∧ Aside (w.grownBy wr (some g)))
    case atStart => exact ⟨k, k + 1, l, by omega, by omega, by omega, rfl, by simp, hn.out.symm, HO1.out, HF0.out, fun t _ => rfl, ext_row HB1.out _⟩
    case round =>
      obtain ⟨i, j, m, hij, hj, hgg, rfl, rfl, hml, OM, MT, MD, BW⟩ := hrel
      have hbs := BW.out.size
      by_cases hjn : j < n
      · have hjz : (j : Int) < (n : Int) := by omega
        have hslm : SlI wr (.slice (some ⟨g, 0, none⟩) n c) m := Own.sl (enc := encI) (fun _ => rfl) OM.out
        obtain ⟨bb, off, x, e1, hx, hbb, hxc⟩ := hslm.at_ hjn
        injection e1 with e1
        injection e1 with e1 e2 _
        subst e1 e2
        have c0 := SlI.cell hxc (Ext.refl _)
        simp only [Nat.zero_add] at c0
        have HC := Lib.hid (HP.out wr x (row_below BW.out hb hbg))
        have hlx : l[j]? = some x := by rw [← MD.out j (Nat.le_refl _)]; exact hx
        have hxx : m[j]? = some x := hx
        cases hpx : p x with
        | true =>
          rw [hpx] at HC
          have HMT := Lib.hid (show m.take i = (l.take (j + 1)).filter fun x => !p x by rw [MT.out, List.take_add_one, hlx, List.filter_append]; simp [hpx])
          clear hxc hslm hx
          go_wp2_with (go_at_fn tf; refine HC.out.mono ?_; rintro e w' ⟨rfl, hE'⟩)
          have EX := Lib.hid hE'
          go_wp2
          go_roundg (n - (j + 1))
          case measure => omega
          case rel => exact ⟨i, j + 1, m, by omega, by omega, by omega, rfl, by simp, hml, OM.out.ext EX.out, HMT.out, fun t ht => MD.out t (by omega), grown_ext BW.out EX.out⟩
        | false =>
          rw [hpx] at HC
          have HMT := Lib.hid (show (m.set i x).take (i + 1) = (l.take (j + 1)).filter fun x => !p x by
            rw [List.take_add_one, List.getElem?_set, if_pos rfl, if_pos (by omega), List.take_set_of_le (Nat.le_refl _), MT.out, List.take_add_one, hlx, List.filter_append]
            simp [hpx])
          have hin : i < n := by omega
          have hiz : (i : Int) < (n : Int) := by omega
          clear hxc hslm hx
          go_wp2_with fail
          refine HC.out.mono ?_
          rintro e w' ⟨rfl, hE'⟩
          have EX := Lib.hid hE'
          have OM2 := OM.out.ext EX.out
          have hslm : SlI w' (.slice (some ⟨g, 0, none⟩) n c) m := Own.sl (enc := encI) (fun _ => rfl) OM2
          obtain ⟨bb, off, y, e1, hy, hbb2, hyc⟩ := hslm.at_ hin
          injection e1 with e1
          injection e1 with e1 e2 _
          subst e1 e2
          have d0 := SlI.cell hyc (Ext.refl _)
          simp only [Nat.zero_add] at d0
          have df : ∀ k, w'.frozen? ⟨g, k, none⟩ = false := fun k => own_frozen OM2 k
          have HOM2 := Lib.hid OM2
          clear hslm hyc hy OM2 c0 hE'
          go_wp2
          go_roundg (n - (j + 1))
          case measure => omega
          case rel => exact ⟨i + 1, j + 1, m.set i x, by omega, by omega, by omega, by simp, by simp, by rw [List.length_set]; exact hml, own_putI (x := x) (i := i) HOM2.out, HMT.out, fun t ht => by rw [List.getElem?_set, if_neg (by omega)]; exact MD.out t (by omega), grown_set (grown_ext BW.out EX.out) (p := ⟨g, i, none⟩) (.inl rfl) _⟩
      · have hje : j = n := by omega
        subst hje
        obtain ⟨w', hr, HOC, hgr⟩ := run_clear_own (enc := encI) (sz := 1) (fun _ => rfl) (t := 36) (e := 3) (ty := 0) (z := .int .i64 0) Tryz.underlying36 (fun _ => by kernel_rfl) rfl (by decide) (by decide) (k := i) (c := c - i) OM.out hml.symm (by omega)
        rw [Nat.mul_one] at hr
        have HOC := Lib.hid HOC
        have HF := Lib.hid (show m.take i = l.filter fun x => !p x by rw [MT.out, List.take_of_length_le (by have := hn.out; omega)])
        have HBE := Lib.hid (show w.grownBy w' (some g) from grown_tr BW.out hgr)
        have hin : i ≤ j := by omega
        have hiz : (i : Int) ≤ (j : Int) := by omega
        clear hgr
        go_wp2
        go_ret
        exact ⟨_, rfl, by rw [← HF.out]; exact HOC.out, HBE.out⟩
end Go.Proofs.YtkpengeaolcjhaaGreatDoor
/- The reference's choices of lots: groups and chosen, by turns. -/
namespace Go.Proofs.YtkpengeaolcjhaaGreatDoor
open Go.RowKit Go.Shelf Go.Lib
set_option maxRecDepth 100000
set_option linter.unusedSimpArgs false

theorem chsG_le {L : Int} {g : List Int → Nat} (hg : ∀ l, g l ≤ l.length) {x : Int} : ∀ (rest sk : List Int) (m : Nat), chsG L g x sk rest m ≤ 1 + (sk.length + rest.length)
  | rest, sk, 0 => by
    rw [chsG_zero]
    have := hg (sk ++ rest)
    rw [List.length_append] at this
    omega
  | [], sk, m + 1 => by rw [chsG]; omega
  | y :: b, sk, m + 1 => by
    have h1 := chsG_le (L := L) hg (x := x) b sk m
    have h2 := chsG_le (L := L) hg (x := x) b (sk ++ [y]) (m + 1)
    rw [chsG]
    simp only [List.length_append, List.length_cons, List.length_nil] at h2 ⊢
    refine Nat.max_le.2 ⟨?_, by omega⟩
    split <;> omega
theorem grpF_le {L : Int} {s : Nat} : ∀ (f : Nat) (l : List Int), grpF L s f l ≤ l.length
  | 0, _ => by rw [grpF]; omega
  | f + 1, [] => by rw [grpF]; omega
  | f + 1, x :: xs => by
    rw [grpF]
    have h1 := grpF_le (L := L) (s := s) f xs
    have h2 := chsG_le (L := L) (g := grpF L s f) (grpF_le f) (x := x) xs [] (s - 1)
    simp only [List.length_nil, List.length_cons] at h2 ⊢
    omega
theorem chsT_le {L : Int} {s f : Nat} {l : List Int} {u : List Bool} {x : Int} {k m : Nat} : chsT L (grpF L s f) l u x k m ≤ 1 + (l.length + l.length) := by
  unfold chsT
  have h := chsG_le (L := L) (g := grpF L s f) (grpF_le f) (x := x) (unU (l.drop k) (u.drop k)) (unU (l.take k) (u.take k)) m
  have h1 := unU_len (l.take k) (u.take k)
  have h2 := unU_len (l.drop k) (u.drop k)
  rw [List.length_take] at h1
  rw [List.length_drop] at h2
  omega
theorem run_copyBo {W : World} {base g : Nat} {v : Value} {l : List Bool} (hB : Blk W g 4 #[]) (hg : base ≤ g) (hW : base ≤ W.heap.size) (hx : SlBo W v l) (hl : l.length ≤ 1000) (ty : TypeId) :
    ∃ v' W', (Builtin.append_ #[46, 46] ty #[.slice (some ⟨g, 0, none⟩) 0 0, v]).run Tryz.prog W = .ok v' W' ∧ Own encBo 4 1 W' base v' l ∧ Ext W W' :=
  run_copy (t := 46) (ty := ty) (enc := encBo) (sz := 1) Tryz.underlying46 info4x rfl (by decide) (by decide) (fun _ => rfl) hB hg hW hx hl
theorem wpList_copyBo {ops : Array Oper} {rest : List Oper} {o : Oper} {a : Act} {Q : Exit → Act → World → Prop} {W : World} (hgd : o.guard = none) (s x : Operand)
    (ho : o.op = .call { callee := .builtin .append, args := #[s, x], argTypes := #[46, 46] }) {base g : Nat} (hs : a.eval s = .slice (some ⟨g, 0, none⟩) 0 0) {v : Value} (hx : a.eval x = v)
    (hB : Blk W g 4 #[]) (hg : base ≤ g) (hW : base ≤ W.heap.size) {l : List Bool} (hl : SlBo W v l) (hlen : l.length ≤ 1000)
    (h : ∀ v' W', Own encBo 4 1 W' base v' l → Ext W W' → wpList Tryz.prog ops Q rest (a.put o.dst v') W') : wpList Tryz.prog ops Q (o :: rest) a W := by
  obtain ⟨v', W', hr, h1, h2⟩ := run_copyBo hB hg hW hl hlen o.type
  refine wpList_plain hgd fun K hK => ?_
  unfold Oper.wp execOp
  simp only [ho, resolve, invoke, builtin, Sem.run_bind, Sem.run_pure, Result.andThen_ok, List.map_toArray, List.map_cons, List.map_nil, hs, hx, hr]
  exact hK _ _ (h v' W' h1 h2)
theorem flat_setBo : ∀ (l : List Bool) (i : Nat) (x : Bool), (l.flatMap encBo).set i (.bool x) = (l.set i x).flatMap encBo
  | [], i, x => by simp
  | y :: l, 0, x => rfl
  | y :: l, i + 1, x => by
    have ih := flat_setBo l i x
    rw [List.set_cons_succ, List.flatMap_cons, List.flatMap_cons, ← ih]
    rfl
theorem own_putBo {w : World} {base g n cap i : Nat} {m : List Bool} {x : Bool} (h : Own encBo 4 1 w base (.slice (some ⟨g, 0, none⟩) n cap) m) :
    Own encBo 4 1 (w.setCell ⟨g, i, none⟩ (.bool x)) base (.slice (some ⟨g, 0, none⟩) n cap) (m.set i x) := by
  have hn : n = m.length := by
    obtain ⟨_, _, e, _⟩ := h.sl (enc := encBo) (fun _ => rfl)
    injection e with _ e _
  unfold Own at *
  rw [List.length_set, ← hn, ← flat_setBo m i x]
  rw [← hn] at h
  exact own_cellset h
theorem own_atBo {W : World} {base g n c k : Nat} {m : List Bool} {y : Bool} (h : Own encBo 4 1 W base (.slice (some ⟨g, 0, none⟩) n c) m) (hy : m[k]? = some y) :
    W.cell? ⟨g, k, none⟩ = some (.bool y) ∧ g < W.heap.size := by
  have hsl : SlBo W (.slice (some ⟨g, 0, none⟩) n c) m := Own.sl (enc := encBo) (fun _ => rfl) h
  have hk : k < n := by
    have h1 := (List.getElem?_eq_some_iff.1 hy).1
    obtain ⟨_, _, e, _⟩ := hsl
    injection e with _ e _
    omega
  obtain ⟨bb, off, y', e1, hy', hb, hc⟩ := hsl.at_ hk
  obtain ⟨rfl, rfl⟩ : g = bb ∧ 0 = off := by simpa using e1
  rw [hy] at hy'
  injection hy' with hy'
  subst hy'
  have := SlBo.cell hc (Ext.refl _)
  rw [Nat.zero_add] at this
  exact ⟨this, hb⟩
theorem ownBo_form {W : World} {base : Nat} {v : Value} {l : List Bool} (h : Own encBo 4 1 W base v l) (h0 : 0 < l.length) : ∃ g cap, v = .slice (some ⟨g, 0, none⟩) l.length cap ∧ base ≤ g ∧ l.length ≤ cap ∧ cap ≤ maxLen := by
  rcases id h.2 with ⟨-, h1⟩ | ⟨g, cap, cur, rfl, hb, hh, h1, h2, h3, h4⟩
  · omega
  · exact ⟨g, cap, rfl, hb, h1, h2⟩

section
variable (l : List Int) (lv : Value) (s L : Int) (w0 : World)
def GrpC (f : Nat) : Prop := ∀ (u : List Bool) (uv : Value) (W : World), Ext w0 W → SlBo W uv u → u.length = l.length → (unU l u).length ≤ f →
  Calls Tryz.prog 55 #[lv, uv, .int .i64 s, .int .i64 L] W fun e W' => e = .returned (.int .i64 ((grpF L s.toNat f (unU l u) : Nat) : Int)) ∧ Ext W W'
def ChsC (f m : Nat) : Prop := ∀ (u : List Bool) (uv : Value) (W : World) (a k : Nat) (x : Int), Ext w0 W → SlBo W uv u → u.length = l.length → (unU l u).length ≤ f → l[a]? = some x → k < l.length →
  Calls Tryz.prog 95 #[lv, uv, .int .i64 (a : Int), .int .i64 (k : Int), .int .i64 (m : Int), .int .i64 s, .int .i64 L] W fun e W' => e = .returned (.int .i64 ((chsT L (grpF L s.toNat f) l u x (k + 1) m : Nat) : Int)) ∧ Ext W W'
end
section
variable {l : List Int} {lv : Value} {s L : Int} {w0 : World}
theorem chs_leaf {f : Nat} (hlen : l.length ≤ 7) (hg : GrpC l lv s L w0 f) : ChsC l lv s L w0 f 0 := by
  intro u uv W a k x hE hu hul hun hx hk
  have HG := Lib.hid (hg u uv W hE hu hul hun)
  have HZ := Lib.hid (chsT_zero (L := L) (g := grpF L s.toNat f) (x := x) (k := k + 1) hul)
  obtain ⟨v, hv⟩ : ∃ v, grpF L s.toNat f (unU l u) = v := ⟨_, rfl⟩
  have hvb : v ≤ 7 := by have h1 := grpF_le (L := L) (s := s.toNat) f (unU l u); have := unU_len l u; omega
  rw [hv] at HG HZ
  rw [HZ.out]
  clear hg hE hu hul hun hx hk hv HZ
  have hw : IntKind.i64.wrap (1 + (v : Int)) = ((1 + v : Nat) : Int) := by
    rw [show (1 + (v : Int)) = ((1 + v : Nat) : Int) by omega]
    exact wrap_nat (by omega)
  go_enter Tryz.func95, Tryz.ntmps95
  go_wp2_with fail
  refine HG.out.mono ?_
  rintro e w1 ⟨rfl, hE⟩
  have E1 := Lib.hid hE
  clear hE HG
  go_wp2
  go_ret
  exact ⟨by first | rfl | simp | (simp; omega), E1.out⟩
set_option maxHeartbeats 4000000 in
theorem chs_cons {f m : Nat} (hlen : l.length ≤ 7) (hv : ∀ x ∈ l, 0 ≤ x ∧ x ≤ 999) (hm : m ≤ 4) (hs : SlI w0 lv l) (ih : ChsC l lv s L w0 f m) : ChsC l lv s L w0 f (m + 1) := by
  intro u uv W a k x hE hu hul hun hx hk
  obtain ⟨A, n, c, rfl, hn, hlc, hcm⟩ := hs.form
  obtain ⟨A2, n2, c2, rfl, hn2, hlc2, hcm2⟩ := hu.form
  have hnn : n2 = n := by have := hn.out; have := hn2.out; omega
  subst hnn
  have HNL := Lib.hid (show l.length = n2 from hn.out.symm)
  have hk' : k < n2 := by have := HNL.out; omega
  have hn7 : n2 ≤ 7 := by have := HNL.out; omega
  have ha' : a < n2 := by have := (List.getElem?_eq_some_iff.1 hx).1; have := HNL.out; omega
  have HS := Lib.hid (hs.ext hE); have HU := Lib.hid hu; have HE := Lib.hid hE; have HUL := Lib.hid hul; have HUN := Lib.hid hun; have HX := Lib.hid hx; have HI := Lib.hid ih
  have HV := Lib.hid hv
  have hxb : 0 ≤ x ∧ x ≤ 999 := hv x (List.mem_of_getElem? hx)
  obtain ⟨hx0, hx9⟩ := hxb
  obtain ⟨tot, htot⟩ : ∃ tot, chsT L (grpF L s.toNat f) l u x (k + 1) (m + 1) = tot := ⟨_, rfl⟩
  have HTB := Lib.hid (show tot ≤ 15 by have := chsT_le (L := L) (s := s.toNat) (f := f) (l := l) (u := u) (x := x) (k := k + 1) (m := m + 1); omega)
  rw [htot]
  have HTOT := Lib.hid htot
  clear hs hE hu hul hun hx hk hn hn2 ih htot hv
  have hm0 : ¬ ((m : Int) + 1 = 0) := by omega
  have hmw : IntKind.i64.wrap ((m : Int) + 1 - 1) = (m : Int) := by rw [show (m : Int) + 1 - 1 = (m : Int) by omega]; exact wrap_nat (by omega)
  have hkw : IntKind.i64.wrap ((k : Int) + 1) = (k : Int) + 1 := by rw [show (k : Int) + 1 = ((k + 1 : Nat) : Int) by omega]; exact wrap_nat (by omega)
  go_enter Tryz.func95, Tryz.ntmps95
  go_wp2
  go_loopg [15, 16] n2 (fun gg s15 s16 wr => ∃ i M : Nat, k + 1 ≤ i ∧ i ≤ n2 ∧ n2 - i ≤ gg ∧ M ≤ 15 ∧ s15 = .int .i64 (M : Int) ∧ s16 = .int .i64 (i : Int) ∧ Aside (max M (chsT L (grpF L s.toNat f) l u x i (m + 1)) = tot) ∧ Aside (Ext W wr))
  case atStart => exact ⟨k + 1, 0, by omega, by omega, by omega, by omega, by simp, by simp, by rw [Nat.zero_max]; exact HTOT.out, Ext.refl _⟩
  case round =>
    obtain ⟨i, M, hi1, hin, hgg, hMb, rfl, rfl, MX, EW⟩ := hrel
    by_cases hlt : i < n2
    · have hltz : (i : Int) < (n2 : Int) := by omega
      obtain ⟨bu, offu, b, rfl, hb, -, hcb⟩ := HU.out.at_ hlt
      obtain ⟨bl, offl, y, rfl, hy, -, hcy⟩ := HS.out.at_ hlt
      obtain ⟨bl2, offl2, x', e2, hx', -, hcx⟩ := HS.out.at_ ha'
      injection e2 with e2
      injection e2 with e21 e22
      subst e21 e22
      obtain rfl : x' = x := by rw [HX.out] at hx'; injection hx' with h; exact h.symm
      obtain ⟨hy0, hy9⟩ := HV.out y (List.mem_of_getElem? hy)
      have hyw : IntKind.i64.wrap (y - x') = y - x' := by rw [IntKind.wrap_i64]; omega
      have HY := Lib.hid hy; have HB := Lib.hid hb
      have c0 := fun W' (h : Ext wr W') => SlBo.cell hcb (EW.out.trans h)
      have c1 := fun W' (h : Ext wr W') => SlI.cell hcy (EW.out.trans h)
      have c2' := fun W' (h : Ext wr W') => SlI.cell hcx (EW.out.trans h)
      clear hb hy hx'
      have hiz : (0 : Int) ≤ (i : Int) := by omega
      cases b with
      | true =>
        have HN := Lib.hid (chsT_used (L := L) (g := grpF L s.toNat f) (x := x') (m := m + 1) HUL.out HY.out HB.out)
        go_wp2_with fail
        refine wp_region_tame (fun W => Ext wr W) (fun W W' => Ext W W') (by kernel_rfl) 69 rfl (by decide +kernel) (Ext.refl _).drew ?_
        repeat (apply tame_q rfl; (intro ρ W hC hr hD; (obtain ⟨hrc, hrg, hrf, hrs⟩ := hr); (simp [go_sem] at hD); go_simp; first | exact ⟨⟨hC, Ext.refl _⟩, rfl⟩ | exact ⟨⟨hC, RS.refl _⟩, rfl⟩ | exact rfl); simp only [List.nil_append, List.cons_append])
        refine tame_end 69 rfl rfl (fun ρ W' hC hr hF => ?_)
        obtain ⟨hrc, hrg, hrf, hrs⟩ := hr
        simp [go_sem] at hF
        apply frame_to
        · go_simp
          exact rfl
        have EW2 := Lib.hid (EW.out.trans hC)
        clear hF hrs hrc hrg hrf hC c0 c1 c2'
        go_wp2
        go_roundg (n2 - (i + 1))
        case measure => omega
        case rel => exact ⟨i + 1, M, by omega, by omega, by omega, hMb, rfl, by simp, by rw [← HN.out]; exact MX.out, EW2.out⟩
      | false =>
        by_cases hfar : L < y - x'
        · have HN := Lib.hid (chsT_far (L := L) (g := grpF L s.toNat f) (x := x') (m := m) HUL.out HY.out HB.out (by omega))
          go_wp2_with fail
          refine wp_region_tame (fun W => Ext wr W) (fun W W' => Ext W W') (by kernel_rfl) 69 rfl (by decide +kernel) (Ext.refl _).drew ?_
          repeat (apply tame_q rfl; (intro ρ W hC hr hD; (obtain ⟨hrc, hrg, hrf, hrs⟩ := hr); (simp [go_sem] at hD); go_simp; first | exact ⟨⟨hC, Ext.refl _⟩, rfl⟩ | exact ⟨⟨hC, RS.refl _⟩, rfl⟩ | exact rfl); simp only [List.nil_append, List.cons_append])
          refine tame_end 69 rfl rfl (fun ρ W' hC hr hF => ?_)
          obtain ⟨hrc, hrg, hrf, hrs⟩ := hr
          simp [go_sem] at hF
          apply frame_to
          · go_simp
            exact rfl
          have EW2 := Lib.hid (EW.out.trans hC)
          clear hF hrs hrc hrg hrf hC c0 c1 c2'
          go_wp2
          go_roundg (n2 - (i + 1))
          case measure => omega
          case rel => exact ⟨i + 1, M, by omega, by omega, by omega, hMb, rfl, by simp, by rw [← HN.out]; exact MX.out, EW2.out⟩
        · have HN := Lib.hid (chsT_near (L := L) (g := grpF L s.toNat f) (x := x') (m := m) HUL.out HY.out HB.out (by omega))
          have hun2 := unU_set_len HUL.out HY.out HB.out
          have HUN2 := Lib.hid (show (unU l (u.set i true)).length ≤ f by have := HUN.out; omega)
          clear hun2
          go_wp2_with fail
          refine wp_region_tame (fun W => Ext wr W) (fun W W' => Ext W W') (by kernel_rfl) 69 rfl (by decide +kernel) (Ext.refl _).drew ?_
          repeat (apply tame_q rfl; (intro ρ W hC hr hD; (obtain ⟨hrc, hrg, hrf, hrs⟩ := hr); (simp [go_sem] at hD); go_simp; first | exact ⟨⟨hC, Ext.refl _⟩, rfl⟩ | exact ⟨⟨hC, RS.refl _⟩, rfl⟩ | exact rfl); simp only [List.nil_append, List.cons_append])
          refine tame_end 69 rfl rfl (fun ρ W' hC hr hF => ?_)
          obtain ⟨hrc, hrg, hrf, hrs⟩ := hr
          simp [go_sem] at hF
          apply frame_to
          · go_simp
            exact rfl
          have EW2 := Lib.hid (EW.out.trans hC)
          clear hF hrs hrc hrg hrf hC c0 c1 c2'
          go_wp2_with (at_builtin; refine wpList_copyBo rfl (.tmp 51) (.tmp 52) rfl (base := W'.heap.size) (g := W'.heap.size) rfl rfl (Blk.new _ _ _) (Nat.le_refl _) (by simp) ((HU.out.ext EW2.out).ext (Ext.al _ _)) (by have := HUL.out; have := HNL.out; omega) ?_)
          intro v1 W1 hown hext
          have HE1 := Lib.hid (show Ext W' W1 from (Ext.al _ _).trans hext)
          obtain ⟨go', cap, rfl, hg', hcap, hcap2⟩ := ownBo_form hown (by have := HUL.out; have := HNL.out; omega)
          have HO1 := Lib.hid hown
          have HL1 := Lib.hid (show u.length = n2 by have := HUL.out; have := HNL.out; omega)
          rw [HL1.out] at hcap
          obtain ⟨z0, z1⟩ := own_atBo HO1.out HB.out
          have z2 : ∀ k, W1.frozen? ⟨go', k, none⟩ = false := fun k => own_frozen HO1.out k
          rw [HL1.out] at HO1 ⊢
          clear hown hext
          go_upto_region 10 with (fail)
          obtain ⟨w5, hw5⟩ : ∃ w5, w5 = W1.setCell ⟨go', i, none⟩ (.bool true) := ⟨_, rfl⟩
          rw [← hw5]
          have HO2 := Lib.hid (show Own encBo 4 1 w5 W'.heap.size (.slice (some ⟨go', 0, none⟩) n2 cap) (u.set i true) from hw5 ▸ own_putBo HO1.out)
          have HE2 := Lib.hid (show Ext W' w5 from hw5 ▸ HE1.out.setCell (by dsimp only; exact hg') _)
          clear hw5 z0 z1 z2
          go_wp2_with fail
          refine (HI.out (u.set i true) _ w5 a i x' (HE.out.trans (EW2.out.trans HE2.out)) (HO2.out.sl (fun _ => rfl)) (by rw [List.length_set]; exact HUL.out) HUN2.out HX.out (by have := HNL.out; omega)).mono ?_
          rintro e w6 ⟨rfl, hE⟩
          have EW3 := Lib.hid ((EW2.out.trans HE2.out).trans hE)
          clear hE HO2 HE2 HO1 HE1
          obtain ⟨q, hq⟩ : ∃ q, chsT L (grpF L s.toNat f) l (u.set i true) x' (i + 1) m = q := ⟨_, rfl⟩
          have HQB := Lib.hid (show q ≤ 15 by have := chsT_le (L := L) (s := s.toNat) (f := f) (l := l) (u := u.set i true) (x := x') (k := i + 1) (m := m); have := HNL.out; omega)
          have MX2 := Lib.hid (show max (max M q) (chsT L (grpF L s.toNat f) l u x' (i + 1) (m + 1)) = tot by rw [← MX.out, HN.out, hq]; omega)
          rw [hq]
          clear hq
          have hmx : max (M : Int) (q : Int) = ((max M q : Nat) : Int) := by omega
          go_wp2
          go_roundg (n2 - (i + 1))
          case measure => omega
          case rel => exact ⟨i + 1, max M q, by omega, by omega, by omega, by have := HQB.out; omega, by first | rfl | simp [hmx], by simp, MX2.out, EW3.out⟩
    · obtain rfl : i = n2 := by omega
      have HEND := Lib.hid (show M = tot by have h := MX.out; rw [chsT_end (by have := HNL.out; omega)] at h; omega)
      go_wp2
      go_ret
      exact ⟨by first | rfl | (rw [HEND.out]; rfl) | (simp [HEND.out]), EW.out⟩
end
end Go.Proofs.YtkpengeaolcjhaaGreatDoor
/- The reference's groups, by recursion. -/
namespace Go.Proofs.YtkpengeaolcjhaaGreatDoor
open Go.RowKit Go.Shelf Go.Lib
set_option maxRecDepth 100000
set_option linter.unusedSimpArgs false

section
variable {l : List Int} {lv : Value} {s L : Int} {w0 : World}
set_option maxHeartbeats 4000000 in
theorem grp_none_any {f : Nat} (hlen : l.length ≤ 7) (hs : SlI w0 lv l) (u : List Bool) (uv : Value) (W : World) (hu : SlBo W uv u) (hul : u.length = l.length) (hall : ∀ i, i < l.length → u[i]? = some true) :
    Calls Tryz.prog 55 #[lv, uv, .int .i64 s, .int .i64 L] W fun e W' => e = .returned (.int .i64 ((grpF L s.toNat f (unU l u) : Nat) : Int)) ∧ Ext W W' := by
  obtain ⟨A, n, c, rfl, hn, hlc, hcm⟩ := hs.form
  obtain ⟨A2, n2, c2, rfl, hn2, hlc2, hcm2⟩ := hu.form
  have hnn : n2 = n := by have := hn.out; have := hn2.out; omega
  subst hnn
  have HNL := Lib.hid (show l.length = n2 from hn.out.symm)
  have hn7 : n2 ≤ 7 := by have := HNL.out; omega
  have HU := Lib.hid hu; have HALL := Lib.hid hall
  rw [grp_none hul hall]
  clear hs hu hul hn hn2 hall
  go_enter Tryz.func55, Tryz.ntmps55
  go_wp2
  go_loopg [9] n2 (fun gg s9 wr => ∃ i : Nat, i ≤ n2 ∧ n2 - i ≤ gg ∧ s9 = .int .i64 (i : Int) ∧ Aside (Ext W wr))
  case atStart => exact ⟨0, by omega, by omega, by simp, Ext.refl _⟩
  case round =>
    obtain ⟨i, hin, hgg, rfl, EW⟩ := hrel
    have hiz : (0 : Int) ≤ (i : Int) := by omega
    by_cases hlt : i < n2
    · have hltz : (i : Int) < (n2 : Int) := by omega
      obtain ⟨bu, offu, b, rfl, hb, -, hcb⟩ := HU.out.at_ hlt
      obtain rfl : b = true := by rw [HALL.out i (by have := HNL.out; omega)] at hb; injection hb with h; exact h.symm
      have c0 := SlBo.cell hcb EW.out
      go_wp2
      go_roundg (n2 - (i + 1))
      case measure => omega
      case rel => exact ⟨i + 1, by omega, by omega, by simp, EW.out⟩
    · obtain rfl : i = n2 := by omega
      go_wp2
      go_ret
      exact ⟨by simp, EW.out⟩
set_option maxHeartbeats 4000000 in
theorem grp_cons {f at' m : Nat} (hlen : l.length ≤ 7) (hs2 : s = ((m + 2 : Nat) : Int)) (hm : m ≤ 2) (hs : SlI w0 lv l) (hG : GrpC l lv s L w0 f) (hC : ChsC l lv s L w0 f (m + 1))
    (u : List Bool) (uv : Value) (W : World) (x : Int) (hE : Ext w0 W) (hu : SlBo W uv u) (hul : u.length = l.length) (hun : (unU l u).length ≤ f + 1) (hx : l[at']? = some x) (hfree : u[at']? = some false) (hall : ∀ i, i < at' → u[i]? = some true) :
    Calls Tryz.prog 55 #[lv, uv, .int .i64 s, .int .i64 L] W fun e W' => e = .returned (.int .i64 ((grpF L s.toNat (f + 1) (unU l u) : Nat) : Int)) ∧ Ext W W' := by
  obtain ⟨A, n, c, rfl, hn, hlc, hcm⟩ := hs.form
  obtain ⟨A2, n2, c2, rfl, hn2, hlc2, hcm2⟩ := hu.form
  have hnn : n2 = n := by have := hn.out; have := hn2.out; omega
  subst hnn
  have HNL := Lib.hid (show l.length = n2 from hn.out.symm)
  have hn7 : n2 ≤ 7 := by have := HNL.out; omega
  have HU := Lib.hid hu; have HE := Lib.hid hE; have HUL := Lib.hid hul; have HX := Lib.hid hx; have HFR := Lib.hid hfree; have HALL := Lib.hid hall
  have HG := Lib.hid hG; have HC := Lib.hid hC
  have hat : at' < n2 := by have := (List.getElem?_eq_some_iff.1 hx).1; have := HNL.out; omega
  have hun2 := unU_set_len hul hx hfree
  have HUN := Lib.hid (show (unU l (u.set at' true)).length ≤ f by omega)
  have HST := Lib.hid (grp_step (L := L) (s := s.toNat) (f := f) hul hx hfree hall)
  have hst : s.toNat - 1 = m + 1 := by omega
  have hsw : IntKind.i64.wrap (s - 1) = ((m + 1 : Nat) : Int) := by rw [hs2, show ((m + 2 : Nat) : Int) - 1 = ((m + 1 : Nat) : Int) by omega]; exact wrap_nat (by omega)
  rw [hst] at HST
  obtain ⟨q, hq⟩ : ∃ q, grpF L s.toNat f (unU l (u.set at' true)) = q := ⟨_, rfl⟩
  obtain ⟨r, hr⟩ : ∃ r, chsT L (grpF L s.toNat f) l (u.set at' true) x (at' + 1) (m + 1) = r := ⟨_, rfl⟩
  rw [HST.out, hq, hr]
  have HQ := Lib.hid hq; have HR := Lib.hid hr
  have hmx : max (q : Int) (r : Int) = ((max q r : Nat) : Int) := by omega
  clear hq hr
  clear hs hE hu hul hn hn2 hall hx hfree hun hun2 hG hC HST hs2
  go_enter Tryz.func55, Tryz.ntmps55
  go_wp2
  go_loopg [9] n2 (fun gg s9 wr => ∃ i : Nat, i ≤ at' ∧ n2 - i ≤ gg ∧ s9 = .int .i64 (i : Int) ∧ Aside (Ext W wr))
  case atStart => exact ⟨0, by omega, by omega, by simp, Ext.refl _⟩
  case round =>
    obtain ⟨i, hin, hgg, rfl, EW⟩ := hrel
    have hiz : (0 : Int) ≤ (i : Int) := by omega
    have hlt : i < n2 := by omega
    have hltz : (i : Int) < (n2 : Int) := by omega
    obtain ⟨bu, offu, b, rfl, hb, -, hcb⟩ := HU.out.at_ hlt
    have c0 := SlBo.cell hcb EW.out
    by_cases hia : i = at'
    · subst hia
      obtain rfl : b = false := by rw [HFR.out] at hb; injection hb with h; exact h.symm
      have hne : ¬ (i : Int) = (n2 : Int) := by omega
      clear hb hcb
      go_upto_region 6 with (fail)
      clear c0
      go_wp2_with (at_builtin; refine wpList_copyBo rfl (.tmp 28) (.tmp 29) rfl (base := wr.heap.size) (g := wr.heap.size) rfl rfl (Blk.new _ _ _) (Nat.le_refl _) (by simp) ((HU.out.ext EW.out).ext (Ext.al _ _)) (by have := HUL.out; have := HNL.out; omega) ?_)
      intro v1 W1 hown hext
      have HE1 := Lib.hid (show Ext wr W1 from (Ext.al _ _).trans hext)
      obtain ⟨go', cap, rfl, hg', hcap, hcap2⟩ := ownBo_form hown (by have := HUL.out; have := HNL.out; omega)
      have HO1 := Lib.hid hown
      have HL1 := Lib.hid (show u.length = n2 by have := HUL.out; have := HNL.out; omega)
      rw [HL1.out] at hcap
      obtain ⟨z0, z1⟩ := own_atBo HO1.out HFR.out
      have z2 : ∀ k, W1.frozen? ⟨go', k, none⟩ = false := fun k => own_frozen HO1.out k
      rw [HL1.out] at HO1 ⊢
      clear hown hext
      go_upto_region 8 with (fail)
      obtain ⟨w5, hw5⟩ : ∃ w5, w5 = W1.setCell ⟨go', i, none⟩ (.bool true) := ⟨_, rfl⟩
      rw [← hw5]
      have HO2 := Lib.hid (show Own encBo 4 1 w5 wr.heap.size (.slice (some ⟨go', 0, none⟩) n2 cap) (u.set i true) from hw5 ▸ own_putBo HO1.out)
      have HE2 := Lib.hid (show Ext W w5 from EW.out.trans (hw5 ▸ HE1.out.setCell (by dsimp only; exact hg') _))
      clear hw5 z0 z1 z2
      go_wp2_with fail
      refine (HG.out (u.set i true) _ w5 (HE.out.trans HE2.out) (HO2.out.sl (fun _ => rfl)) (by rw [List.length_set]; exact HUL.out) HUN.out).mono ?_
      rintro e w6 ⟨rfl, hE⟩
      have HE3 := Lib.hid (HE2.out.trans hE)
      have HO3 := Lib.hid (HO2.out.ext hE)
      clear hE HO2 HE2 HO1 HE1
      rw [HQ.out]
      go_wp2_with fail
      refine (HC.out (u.set i true) _ w6 i i x (HE.out.trans HE3.out) (HO3.out.sl (fun _ => rfl)) (by rw [List.length_set]; exact HUL.out) HUN.out HX.out (by have := HNL.out; omega)).mono ?_
      rintro e w7 ⟨rfl, hE⟩
      have HE4 := Lib.hid (HE3.out.trans hE)
      clear hE HE3 HO3
      rw [HR.out]
      go_wp2
      go_ret
      exact ⟨by first | rfl | simp [hmx], HE4.out⟩
    · have hi2 : i < at' := by omega
      obtain rfl : b = true := by rw [HALL.out i hi2] at hb; injection hb with h; exact h.symm
      go_wp2
      go_roundg (n2 - (i + 1))
      case measure => omega
      case rel => exact ⟨i + 1, by omega, by omega, by simp, EW.out⟩
theorem first_free : ∀ (u : List Bool), (∀ i : Nat, i < u.length → u[i]? = some true) ∨ ∃ k : Nat, u[k]? = some false ∧ ∀ i, i < k → u[i]? = some true
  | [] => .inl fun i hi => by simp at hi
  | false :: u => .inr ⟨0, rfl, fun i hi => by omega⟩
  | true :: u => by
    rcases first_free u with h | ⟨k, h1, h2⟩
    · refine .inl fun i hi => ?_
      cases i with
      | zero => rfl
      | succ i => simpa using h i (by simpa using hi)
    · refine .inr ⟨k + 1, by simpa using h1, fun i hi => ?_⟩
      cases i with
      | zero => rfl
      | succ i => simpa using h2 i (by omega)
theorem chs_all {f : Nat} (hlen : l.length ≤ 7) (hv : ∀ x ∈ l, 0 ≤ x ∧ x ≤ 999) (hs : SlI w0 lv l) (hG : GrpC l lv s L w0 f) : ∀ m, m ≤ 4 → ChsC l lv s L w0 f m
  | 0, _ => chs_leaf hlen hG
  | m + 1, h => chs_cons hlen hv (by omega) hs (chs_all hlen hv hs hG m (by omega))
theorem unU_zero {u : List Bool} {k : Nat} {x : Int} (hul : u.length = l.length) (hx : l[k]? = some x) (hu : u[k]? = some false) : 0 < (unU l u).length := by
  have := unU_set_len hul hx hu
  omega
theorem grp_any {m : Nat} (hlen : l.length ≤ 7) (hs2 : s = ((m + 2 : Nat) : Int)) (hm : m ≤ 2) (hv : ∀ x ∈ l, 0 ≤ x ∧ x ≤ 999) (hs : SlI w0 lv l) : ∀ f, GrpC l lv s L w0 f
  | 0 => by
    intro u uv W hE hu hul hun
    rcases first_free u with h | ⟨k, h1, h2⟩
    · exact grp_none_any hlen hs u uv W hu hul (fun i hi => h i (by omega))
    · obtain ⟨x, hx⟩ : ∃ x, l[k]? = some x := ⟨_, List.getElem?_eq_getElem (by have := (List.getElem?_eq_some_iff.1 h1).1; omega)⟩
      have := unU_zero hul hx h1
      omega
  | f + 1 => by
    intro u uv W hE hu hul hun
    rcases first_free u with h | ⟨k, h1, h2⟩
    · exact grp_none_any hlen hs u uv W hu hul (fun i hi => h i (by omega))
    · obtain ⟨x, hx⟩ : ∃ x, l[k]? = some x := ⟨_, List.getElem?_eq_getElem (by have := (List.getElem?_eq_some_iff.1 h1).1; omega)⟩
      have ih := grp_any hlen hs2 hm hv hs f
      exact grp_cons hlen hs2 hm hs ih (chs_all hlen hv hs ih (m + 1) (by omega)) u uv W x hE hu hul hun hx h1 h2
end
end Go.Proofs.YtkpengeaolcjhaaGreatDoor
/- slices.Sort at a few ints: the steps that lead to the insertion sort. -/
namespace Go.Proofs.YtkpengeaolcjhaaGreatDoor
open Go.RowKit Go.Shelf Go.Lib
set_option maxRecDepth 100000
set_option linter.unusedSimpArgs false

set_option maxHeartbeats 4000000 in
theorem len64_any (n : Nat) (hn : n ≤ 12) (w : World) : Calls Tryz.prog 128 #[.int .u64 (n : Int)] w fun e w' => (∃ k, e = .returned (.int .i64 k)) ∧ w = w' := by
  rcases (by omega : n = 0 ∨ n = 1 ∨ n = 2 ∨ n = 3 ∨ n = 4 ∨ n = 5 ∨ n = 6 ∨ n = 7 ∨ n = 8 ∨ n = 9 ∨ n = 10 ∨ n = 11 ∨ n = 12) with rfl | rfl | rfl | rfl | rfl | rfl | rfl | rfl | rfl | rfl | rfl | rfl | rfl
  all_goals
    go_enter Tryz.func128, Tryz.ntmps128
    go_wp2
    go_ret
    exact ⟨⟨_, rfl⟩, rfl⟩
theorem bitsLen_any (n : Nat) (hn : n ≤ 12) (w : World) : Calls Tryz.prog 91 #[.int .u64 (n : Int)] w fun e w' => (∃ k, e = .returned (.int .i64 k)) ∧ w = w' := by
  go_enter Tryz.func91, Tryz.ntmps91
  go_wp2_with fail
  refine (len64_any n hn _).mono ?_
  rintro e w1 ⟨⟨k, rfl⟩, rfl⟩
  go_wp2
  go_ret
  exact ⟨⟨_, rfl⟩, rfl⟩
set_option maxHeartbeats 4000000 in
theorem insSort_none (v : Value) (w : World) : Calls Tryz.prog 118 #[v, .int .i64 0, .int .i64 0] w fun e w' => (∃ v, e = .returned v) ∧ w = w' := by
  go_enter Tryz.func118, Tryz.ntmps118
  go_wp2
  go_loopg [6, 7] 1 (fun gg s6 _ wr => gg = 1 ∧ s6 = .int .i64 1 ∧ wr = w)
  case atStart => exact ⟨rfl, rfl, rfl⟩
  case round =>
    obtain ⟨rfl, rfl, rfl⟩ := hrel
    go_wp2
    refine bodyPost_end (results_none rfl _ _ _) rfl ?_
    exact ⟨⟨_, rfl⟩, rfl⟩
/-- What a sort of n numbers does. -/
def SortP (v : Value) (l : List Int) (base : Nat) (w : World) (e : Ending) (w' : World) : Prop := (∃ r, e = .returned r) ∧ Own encI 3 1 w' base v (ordI l l.length) ∧ Below base w w'
theorem insSort_all (l : List Int) (v : Value) (base : Nat) (w : World) (hl : l.length ≤ 12) (ho : Own encI 3 1 w base v l) (hb : base ≤ w.heap.size) :
    Calls Tryz.prog 118 #[v, .int .i64 0, .int .i64 (l.length : Int)] w (SortP v l base w) := by
  rcases own_form ho with ⟨rfl, rfl⟩ | ⟨g, cap, cur, rfl, hg, hh, h1, h2, h3, h4⟩
  · exact (insSort_none _ w).mono fun e w' ⟨he, hw⟩ => ⟨he, hw ▸ ho, hw ▸ Below.refl _ _⟩
  · by_cases h0 : l.length = 0
    · obtain rfl := List.length_eq_zero_iff.1 h0
      exact (insSort_none _ w).mono fun e w' ⟨he, hw⟩ => ⟨he, hw ▸ ho, hw ▸ Below.refl _ _⟩
    · exact (insSort_any l g l.length cap base w rfl (by omega) hl ho).mono fun e w' ⟨he, hO, hG⟩ => ⟨he, hO, (Below.refl base w).grown hG hb (fun k hk => by injection hk with hk; subst hk; exact hg)⟩
set_option maxHeartbeats 4000000 in
theorem pdq_any (l : List Int) (v : Value) (k : Int) (base : Nat) (w : World) (hl : l.length ≤ 12) (ho : Own encI 3 1 w base v l) (hb : base ≤ w.heap.size) :
    Calls Tryz.prog 90 #[v, .int .i64 0, .int .i64 (l.length : Int), .int .i64 k] w (SortP v l base w) := by
  have HI := Lib.hid (insSort_all l v base w hl ho hb)
  obtain ⟨n, hn⟩ : ∃ n, l.length = n := ⟨_, rfl⟩
  have hw : IntKind.i64.wrap ((n : Int) - 0) = (n : Int) := by rw [Int.sub_zero]; exact wrap_nat (by omega)
  have hw2 : IntKind.i64.wrap (n : Int) = (n : Int) := wrap_nat (by omega)
  have h12 : (n : Int) ≤ 12 := by omega
  have h12n : n ≤ 12 := by omega
  rw [hn] at HI ⊢
  clear ho hb hl hn
  go_enter Tryz.func90, Tryz.ntmps90
  go_wp2
  go_loopg [1, 2, 3, 8, 9] 1 (fun gg s1 s2 s3 _ _ wr => gg = 1 ∧ s1 = .int .i64 0 ∧ s2 = .int .i64 (n : Int) ∧ s3 = .int .i64 k ∧ wr = w)
  case atStart => exact ⟨rfl, rfl, rfl, rfl, rfl⟩
  case round =>
    obtain ⟨rfl, rfl, rfl, rfl, rfl⟩ := hrel
    go_wp2_with fail
    refine HI.out.mono ?_
    rintro e w2 ⟨⟨r, rfl⟩, hO, hB⟩
    have HO := Lib.hid hO; have HB := Lib.hid hB
    clear hO hB HI
    go_wp2
    refine bodyPost_end (results_none rfl _ _ _) rfl ?_
    exact ⟨⟨_, rfl⟩, HO.out, HB.out⟩
set_option maxHeartbeats 4000000 in
theorem sortI_any (l : List Int) (v : Value) (base : Nat) (w : World) (hl : l.length ≤ 12) (ho : Own encI 3 1 w base v l) (hb : base ≤ w.heap.size) : Calls Tryz.prog 52 #[v] w (SortP v l base w) := by
  obtain ⟨A, n, c, rfl, hn, hlc, hcm⟩ := (show SlI w v l from ho.sl (fun _ => rfl)).form
  have hnl : n = l.length := hn.out
  have HP := Lib.hid fun k => pdq_any l (.slice A n c) k base w hl ho hb
  rw [show l.length = n from hnl.symm] at HP
  have hn12 : n ≤ 12 := by omega
  clear ho hb hl hn hnl
  go_enter Tryz.func52, Tryz.ntmps52
  go_wp2_with fail
  refine (bitsLen_any n hn12 _).mono ?_
  rintro e w1 ⟨⟨k, rfl⟩, rfl⟩
  go_wp2_with fail
  refine (HP.out k).mono ?_
  rintro e w2 ⟨⟨r, rfl⟩, hO, hB⟩
  have HO := Lib.hid hO; have HB := Lib.hid hB
  clear hO hB HP
  go_wp2
  refine bodyPost_end (results_none rfl _ _ _) rfl ?_
  exact ⟨⟨_, rfl⟩, HO.out, HB.out⟩
end Go.Proofs.YtkpengeaolcjhaaGreatDoor
/- mill.Most: how many lots there can be. -/
namespace Go.Proofs.YtkpengeaolcjhaaGreatDoor
open Go.RowKit Go.Shelf Go.Lib
set_option maxRecDepth 100000
set_option linter.unusedSimpArgs false

def fitLen (l : List Cot) : List Int := (l.filter fitB).map (·.len)
theorem fitLen_snoc (x : Cot) (l : List Cot) : fitLen (l ++ [x]) = fitLen l ++ (if fitB x then [x.len] else []) := by
  unfold fitLen
  rw [List.filter_append, List.map_append]
  congr 1
  by_cases h : fitB x = true
  · rw [if_pos h]; simp [h]
  · rw [if_neg h]; simp [h]
theorem fitLen_le (l : List Cot) : (fitLen l).length ≤ l.length := by unfold fitLen; rw [List.length_map]; exact List.length_filter_le _ _
theorem gr_le_len (L : Int) (s : Nat) (hs : 1 ≤ s) : ∀ (n : Nat) (l : List Int), l.length ≤ n → gr L s l ≤ l.length
  | _, [], _ => by rw [gr_nil]; omega
  | 0, x :: l, h => by simp at h
  | n + 1, x :: l, h => by
    have hl : l.length ≤ n := by simpa using h
    rw [gr_cons, List.length_cons]
    split
    · have := gr_le_len L s hs n (l.drop (s - 1)) (by rw [List.length_drop]; omega)
      rw [List.length_drop] at this
      omega
    · have := gr_le_len L s hs n l hl
      omega
theorem most_no {m : Mll} {L : Int} (h : checkM m = false) : mostE m L = 90 ∧ mostV m L = 0 := by
  have e : mostE m L = 90 := by unfold mostE; rw [h]; rfl
  exact ⟨e, by unfold mostV; rw [e]; rfl⟩
theorem most_arg {m : Mll} {L : Int} (h : checkM m = true) (h2 : L < 0) : mostE m L = 2 ∧ mostV m L = 0 := by
  have e : mostE m L = 2 := by unfold mostE; rw [h, if_pos rfl, if_pos h2]
  exact ⟨e, by unfold mostV; rw [e]; rfl⟩
theorem most_ok {m : Mll} {L : Int} (h : checkM m = true) (h2 : ¬ L < 0) : mostE m L = 0 ∧ mostV m L = mostN m L := by
  have e : mostE m L = 0 := by unfold mostE; rw [h, if_pos rfl, if_neg h2]
  exact ⟨e, by unfold mostV; rw [e]; rfl⟩
theorem SlI.none {W : World} {A : Option Addr} {c : Nat} (h : c ≤ maxLen) : SlI W (.slice A 0 c) [] := ⟨A, c, rfl, by simp, h, fun h => by simp at h⟩
set_option maxHeartbeats 8000000 in
theorem mostM_any (lots size L : Int) (l : List Rc) (sv : Value) (w : World) (hT : TabM w) (hs : MlC w sv l) (hlen : l.length ≤ 1000) :
    Calls Tryz.prog 14 #[valM lots size sv, .int .i64 L] w fun e w' => e = .returned (.tuple #[.int .i64 (mostV (mOf lots size l) L), .int .i64 (mostE (mOf lots size l) L)]) ∧ Ext w w' := by
  have HS := Lib.hid hs; have HT := Lib.hid hT; have HLN := Lib.hid hlen
  obtain ⟨A, n, c, rfl, hn, hlc, hcm⟩ := hs.1.form
  have HL := Lib.hid (show l.length = n from hn.out.symm)
  have hnb : n ≤ 1000 := by have := hn.out; omega
  clear hs hT hn hlen
  obtain ⟨V, hV⟩ : ∃ V, mostV (mOf lots size l) L = V := ⟨_, rfl⟩
  obtain ⟨E0, hE0⟩ : ∃ E0, mostE (mOf lots size l) L = E0 := ⟨_, rfl⟩
  rw [hV, hE0]
  have HV := Lib.hid hV; have HE0 := Lib.hid hE0
  clear hV hE0
  go_enter Tryz.func14, Tryz.ntmps14
  go_wp2_with fail
  refine (checkM_any lots size l _ _ (HT.out.ext (Ext.al _ _)) (HS.out.ext (Ext.al _ _)) HLN.out).mono ?_
  rintro e w1 ⟨rfl, hE⟩
  have HE1 := Lib.hid ((Ext.al w (.cells #[.int .i64 lots, .int .i64 size, .slice A n c] 24)).trans hE)
  have HB1 := Lib.hid ((Blk.new w 24 #[.int .i64 lots, .int .i64 size, .slice A n c]).ext hE)
  obtain ⟨b0, b1, b2, bf, bl⟩ := HB1.out.c3
  clear hE
  cases hc : checkM (mOf lots size l)
  · have HC := Lib.hid (most_no (L := L) hc)
    simp only [errB]
    clear hc
    go_wp2
    go_ret2
    exact ⟨by rw [← HV.out, ← HE0.out, HC.out.1, HC.out.2]; rfl, HE1.out⟩
  have HC := Lib.hid hc
  simp only [errB]
  clear hc
  by_cases hL : L < 0
  · have HM := Lib.hid (most_arg HC.out hL)
    go_wp2
    go_ret2
    exact ⟨by rw [← HV.out, ← HE0.out, HM.out.1, HM.out.2]; rfl, HE1.out⟩
  have HM := Lib.hid (most_ok HC.out hL)
  have HMO := Lib.hid (mok_of HC.out)
  obtain ⟨sz, hsz⟩ : ∃ sz : Nat, size = (sz : Int) := ⟨size.toNat, by have h : 2 ≤ size := HMO.out.s2; omega⟩
  subst hsz
  have hs2 : 2 ≤ sz := by have h : 2 ≤ (sz : Int) := HMO.out.s2; omega
  have hs4 : sz ≤ 4 := by have h : (sz : Int) ≤ 4 := HMO.out.s4; omega
  have HN7 := Lib.hid (show n ≤ 7 by have h := HMO.out.n7; simp at h; have := HL.out; omega)
  obtain ⟨G, hG⟩ : ∃ G, mostN (mOf lots sz l) L = (G : Nat) ∧ gr L sz (sortedL (mOf lots sz l)) = G := ⟨_, rfl, rfl⟩
  have HGN := Lib.hid hG.1
  have HG := Lib.hid hG.2
  clear hG
  go_wp2_with fail
  refine (laid_any lots sz l _ _ (HT.out.1.ext HE1.out) (HS.out.ext HE1.out) HLN.out).mono ?_
  rintro e w2 ⟨⟨m, nn, rfl, -, -, hmp⟩, hE⟩
  have HE2 := Lib.hid (HE1.out.trans hE); have HMP := Lib.hid hmp
  have HB2 := Lib.hid (HB1.out.ext hE)
  clear hE hmp b0 b1 b2 bf bl
  obtain ⟨b0, b1, b2, bf, bl⟩ := HB2.out.c3
  go_upto_region 9 with (fail)
  obtain ⟨w3, hw3⟩ : ∃ w3, w3 = w2.alloc (.cells #[.int .i64 lots, .int .i64 (sz : Int), .slice A n c, .map (some m)] 95) := ⟨_, rfl⟩
  rw [← hw3]
  have HE3 := Lib.hid (show Ext w w3 from hw3 ▸ HE2.out.alloc _)
  have HB3 := Lib.hid (show Blk w3 w.heap.size 24 #[.int .i64 lots, .int .i64 (sz : Int), .slice A n c] from hw3 ▸ HB2.out.alloc _)
  have HT3 := Lib.hid (show Blk w3 w2.heap.size 95 #[.int .i64 lots, .int .i64 (sz : Int), .slice A n c, .map (some m)] from hw3 ▸ Blk.new _ _ _)
  have HMP3 := Lib.hid (show MapB w3 m nn (fitTo l l.length) from hw3 ▸ HMP.out.ext (Ext.al _ _))
  clear hw3 b0 b1 b2 bf bl
  go_loopg [8, 24] n (fun gg s8 s24 wr => ∃ kk : Nat, kk ≤ n ∧ n - kk ≤ gg ∧ s24 = .int .i64 (kk : Int) ∧ Aside (Own encI 3 1 wr w3.heap.size s8 (fitLen ((l.take kk).map (·.c)))) ∧ Aside (Ext w3 wr))
  case atStart => exact ⟨0, by omega, by omega, by simp, Own.nil _ _, Ext.refl _⟩
  case round =>
    obtain ⟨kk, hkk, hgg, rfl, OW, HW⟩ := hrel
    by_cases hlt : kk < n
    · have hltz : (kk : Int) < (n : Int) := by omega
      have hin : In64 (kk : Int) := by unfold In64; omega
      obtain ⟨bi, offi, x, rfl, hx, hb, hcell⟩ := HS.out.1.at_ hlt
      obtain ⟨c0, c1, c2, c3, c4, c5, c6, c7⟩ := SlC.cells hcell (HE3.out.trans HW.out)
      have lk := (HMP3.out.ext (HW.out.trans (Ext.al wr (.cells #[.int .i64 x.c.b.id, .int .i64 x.c.b.layers, .int .i64 x.c.b.dry.lo, .int .i64 x.c.b.dry.hi, .slice x.da x.dn x.dc, .slice x.wa x.wn x.wc, .int .i64 x.c.len, .int .i64 x.c.str] 63)))).look hin
      rw [fitTo_at hx] at lk
      obtain ⟨t0, t1, t2, t3, tf, tl⟩ := (HT3.out.ext HW.out).c4
      have HTK := Lib.hid (show fitLen ((l.take (kk + 1)).map (·.c)) = fitLen ((l.take kk).map (·.c)) ++ (if fitB x.c then [x.c.len] else []) by rw [List.take_add_one, hx, List.map_append]; exact fitLen_snoc _ _)
      have HLB := Lib.hid (show (fitLen ((l.take kk).map (·.c))).length < 100000000000 by
        have h1 := fitLen_le ((l.take kk).map (·.c))
        rw [List.length_map, List.length_take] at h1; omega)
      generalize fitLen ((l.take kk).map (·.c)) = L0 at *
      clear hcell hx
      cases hfx : fitB x.c
      · have HX := Lib.hid hfx
        rw [hfx] at lk
        have HT2 := Lib.hid (show fitLen ((l.take (kk + 1)).map (·.c)) = L0 by rw [HTK.out, HX.out]; simp)
        clear hfx
        go_wp2
        go_roundg (n - (kk + 1))
        case measure => omega
        case rel => exact ⟨kk + 1, by omega, by omega, by simp, by rw [HT2.out]; exact OW.out.ext (Ext.al _ _), HW.out.alloc _⟩
      · have HX := Lib.hid hfx
        rw [hfx] at lk
        have HT2 := Lib.hid (show fitLen ((l.take (kk + 1)).map (·.c)) = L0 ++ [x.c.len] by rw [HTK.out, HX.out]; simp)
        clear hfx
        go_wp2_with (at_builtin; refine wpList_app encI 36 3 1 _ 8 Tryz.underlying36 info3x rfl (by decide) (by decide) (fun _ => rfl) encI_one rfl (.tmp 33) (.tmp 36) rfl w3.heap.size _ L0 rfl ((OW.out.ext (Ext.al _ _)).alloc _) (wr.heap.size + 1) 1 x.c.len rfl (cells1 (by simp [go_sem])) HLB.out (by have := HW.out.size; simp; omega) ?_)
        intro g cap w' hown hg2 hbel _
        rw [← HT2.out] at hown
        have HO := Lib.hid hown
        have HB := Lib.hid (show Ext w3 w' from Below.trans ((HW.out.alloc _).alloc _) hbel)
        clear hown hbel
        go_wp2
        go_roundg (n - (kk + 1))
        case measure => omega
        case rel => exact ⟨kk + 1, by omega, by omega, by simp, HO.out, HB.out⟩
    · have HEN := Lib.hid (show kk = n by omega)
      have HFL := Lib.hid (show (l.take kk).map (·.c) = (mOf lots sz l).cots by rw [List.take_of_length_le (by have := HEN.out; have := HL.out; omega)])
      rw [HFL.out] at OW
      have HF2 := Lib.hid (show fitLen (mOf lots sz l).cots = fitLens (mOf lots sz l) from rfl)
      rw [HF2.out] at OW
      obtain ⟨T, hT⟩ : ∃ T, fitLens (mOf lots sz l) = T := ⟨_, rfl⟩
      rw [hT] at OW
      have HTL := Lib.hid (show T.length ≤ 7 by
        have h := fitLen_le (mOf lots sz l).cots
        have e : (mOf lots sz l).cots.length = n := by simp [HL.out]
        rw [e] at h
        rw [← hT]
        have := HN7.out
        exact Nat.le_trans h this)
      have HTO := Lib.hid (show ordI T T.length = sortedL (mOf lots sz l) by
        refine sorted_uniq ?_ (ordI_ok T T.length).1 (sortedL_ok _).1
        have h1 := (ordI_ok T T.length).2
        rw [List.take_length] at h1
        exact h1.trans ((List.Perm.of_eq hT.symm).trans (sortedL_ok _).2.symm))
      have HW3 := Lib.hid HW.out.size
      clear hT
      go_wp2_with fail
      refine (sortI_any T _ w3.heap.size wr (by have := HTL.out; omega) OW.out HW3.out).mono ?_
      rintro e w5 ⟨⟨r, rfl⟩, hO, hE⟩
      rw [HTO.out] at hO
      have HO5 := Lib.hid (show SlI w5 _ (sortedL (mOf lots sz l)) from hO.sl (fun _ => rfl))
      have HE5 := Lib.hid (show Ext w3 w5 from Below.trans HW.out hE)
      have HSV := Lib.hid (show ∀ x ∈ sortedL (mOf lots sz l), 1 ≤ x ∧ x ≤ 60 from fun x hx => by
        have h := (sortedL_ok (mOf lots sz l)).2.mem_iff.1 hx
        unfold fitLens at h
        obtain ⟨y, hy, rfl⟩ := List.mem_map.1 h
        exact HMO.out.len y (List.mem_filter.1 hy).1)
      have HSL := Lib.hid (show (sortedL (mOf lots sz l)).length ≤ 7 by
        have h := (ordI_ok T T.length).2.length_eq
        rw [HTO.out, List.take_length] at h
        rw [h]; exact HTL.out)
      clear hO hE OW HW
      obtain ⟨b0, b1, b2, bf, bl⟩ := (HB3.out.ext HE5.out).c3
      obtain ⟨z, hz⟩ : ∃ z, z + 1 = sz := ⟨sz - 1, by omega⟩
      have HZ := Lib.hid hz
      have hzw : IntKind.i64.wrap ((sz : Int) - 1) = (z : Int) := by rw [show (sz : Int) - 1 = (z : Int) by omega]; exact wrap_nat (by omega)
      clear hz
      obtain ⟨S, hS⟩ : ∃ S, sortedL (mOf lots sz l) = S := ⟨_, rfl⟩
      rw [hS] at HO5 HSV HSL HG
      clear hS
      go_wp2
      go_loopg [8, 11] 10 (fun gg s8 s11 wr => ∃ (A2 : Option Addr) (r c2 k : Nat) (R : List Int), s8 = .slice A2 r c2 ∧ s11 = .int .i64 (k : Int) ∧ r ≤ gg ∧ r ≤ 7 ∧ k ≤ 7 ∧ Aside (SlI w5 (.slice A2 r c2) R) ∧ Aside (k + gr L sz R = G) ∧ Aside (∀ x ∈ R, 1 ≤ x ∧ x ≤ 60) ∧ Aside (Ext w5 wr))
      case atStart =>
        obtain ⟨A2, r, c2, hv, hr, -, -⟩ := HO5.out.form
        refine ⟨A2, r, c2, 0, S, hv, by simp, by have := hr.out; have := HSL.out; omega, by have := hr.out; have := HSL.out; omega, by omega, hv ▸ HO5.out, by rw [Nat.zero_add]; exact HG.out, HSV.out, Ext.refl _⟩
      case round =>
        obtain ⟨A2, r, c2, k, R, rfl, rfl, hgr, hr7, hk7, SR, KR, VR, EW⟩ := hrel
        obtain ⟨A3, r3, c3, e3, hr3, hrc, hcm2⟩ := SR.out.form
        injection e3 with e31 e32 e33
        subst e31 e32 e33
        have HRL := Lib.hid (show R.length = r from hr3.out.symm)
        have HKG := Lib.hid (show k + gr L sz R ≤ 7 by
          have h1 := KR.out; have h2 := gr_le_len L sz (by omega) _ S (Nat.le_refl _); have := HSL.out; have := HG.out; omega)
        clear hr3
        by_cases hge : sz ≤ r
        · have hgez : (sz : Int) ≤ (r : Int) := by omega
          have hzr : z < r := by have := HZ.out; omega
          have hzrz : (z : Int) < (r : Int) := by omega
          have hzn : (0 : Int) ≤ (z : Int) := by omega
          have h0r : 0 < r := by omega
          have h0rz : (0 : Int) < (r : Int) := by omega
          have h1r : (1 : Int) ≤ (r : Int) := by omega
          have h1c : (1 : Int) ≤ (c2 : Int) := by omega
          have hsc : (sz : Int) ≤ (c2 : Int) := by omega
          have hrcz : (r : Int) ≤ (c2 : Int) := by omega
          have hszn : (0 : Int) ≤ (sz : Int) := by omega
          obtain ⟨b, off, y, rfl, hy, hbl, hcy⟩ := SR.out.at_ hzr
          obtain ⟨b', off', x, e2, hx, -, hcx⟩ := SR.out.at_ h0r
          injection e2 with e2
          injection e2 with e21 e22
          subst e21 e22
          have c0 := fun W' (h : Ext wr W') => SlI.cell hcy (EW.out.trans h)
          have c1 := fun W' (h : Ext wr W') => SlI.cell hcx (EW.out.trans h)
          simp only [Nat.add_zero] at c1
          obtain ⟨hy0, hy9⟩ := VR.out y (List.mem_of_getElem? hy)
          obtain ⟨hx0, hx9⟩ := VR.out x (List.mem_of_getElem? hx)
          have hyw : IntKind.i64.wrap (y - x) = y - x := by rw [IntKind.wrap_i64]; omega
          have HRD := Lib.hid (show R = x :: R.drop 1 by have := drop_at hx; rwa [List.drop_zero] at this)
          have HWIN := Lib.hid (show win L sz R = decide (y - x ≤ L) by
            unfold win
            rw [decide_eq_true (by have := HRL.out; omega), show sz - 1 = z by have := HZ.out; omega, hy, hx]
            rfl)
          have HGR := Lib.hid (show gr L sz R = if win L sz R then 1 + gr L sz (R.drop sz) else gr L sz (R.drop 1) by
            rw [HRD.out, gr_cons, List.drop_drop, ← HRD.out, show 1 + (sz - 1) = sz by omega])
          have HS1 := Lib.hid (show SlI w5 (.slice (some ⟨b, off + 1, none⟩) (r - 1) (c2 - 1)) (R.drop 1) by simpa only [Nat.mul_one] using SR.out.drop (k := 1) (c' := c2 - 1) (by omega) (by unfold maxLen; omega))
          have HSZ := Lib.hid (show SlI w5 (.slice (some ⟨b, off + sz, none⟩) (r - sz) (c2 - sz)) (R.drop sz) by simpa only [Nat.mul_one] using SR.out.drop (k := sz) (c' := c2 - sz) (by omega) (by unfold maxLen; omega))
          have HV1 := Lib.hid (show ∀ x ∈ R.drop 1, 1 ≤ x ∧ x ≤ 60 from fun x hx => VR.out x (List.mem_of_mem_drop hx))
          have HVZ := Lib.hid (show ∀ x ∈ R.drop sz, 1 ≤ x ∧ x ≤ 60 from fun x hx => VR.out x (List.mem_of_mem_drop hx))
          clear hx hy hcx hcy
          obtain ⟨b0, b1, b2, bf, bl⟩ := (HB3.out.ext (HE5.out.trans EW.out)).c3
          have hb1 := fun W' (h : Ext wr W') => (((HB3.out.ext (HE5.out.trans EW.out)).ext h).c3).2.1
          have HYX := Lib.hid hyw
          cases hyl : decide (y - x ≤ L) with
          | true =>
            have hle : ¬ L < y - x := by have := of_decide_eq_true hyl; omega
            have HKR := Lib.hid (show (k + 1) + gr L sz (R.drop sz) = G by rw [← KR.out, HGR.out, HWIN.out, hyl, if_pos rfl]; omega)
            have hk1 : IntKind.i64.wrap ((k : Int) + 1) = ((k + 1 : Nat) : Int) := by rw [show (k : Int) + 1 = ((k + 1 : Nat) : Int) by omega]; exact wrap_nat (by omega)
            have HK1 := Lib.hid (show k + 1 ≤ 7 by have h1 := HKG.out; rw [HGR.out, HWIN.out, hyl, if_pos rfl] at h1; omega)
            clear hyl
            go_wp2_with fail
            refine wp_region_tame (fun W => Ext wr W) (fun W W' => Ext W W') (by kernel_rfl) 67 rfl (by decide +kernel) (Ext.refl _).drew ?_
            repeat (apply tame_q rfl; (intro ρ W hC hr hD; (obtain ⟨hrc, hrg, hrf, hrs⟩ := hr); (simp [go_sem] at hD); go_simp; first | exact ⟨⟨hC, Ext.refl _⟩, rfl⟩ | exact ⟨⟨hC, RS.refl _⟩, rfl⟩ | exact rfl); simp only [List.nil_append, List.cons_append])
            refine tame_end 67 rfl rfl (fun ρ W' hC hr hF => ?_)
            obtain ⟨hrc', hrg, hrf, hrs⟩ := hr
            simp [go_sem] at hF
            apply frame_to
            · go_simp
              exact rfl
            have EW2 := Lib.hid (EW.out.trans hC)
            clear hF hrs hrc' hrg hrf hC c0 c1 hb1 b0 b1 b2 bf bl
            obtain ⟨b0, b1, b2, bf, bl⟩ := (HB3.out.ext (HE5.out.trans EW2.out)).c3
            by_cases hcc : c2 = sz
            · have HRN := Lib.hid (show R.drop sz = [] from List.drop_eq_nil_of_le (by have := HRL.out; omega))
              rw [HRN.out] at HKR
              go_wp2
              go_roundg 0
              case measure => omega
              case rel => exact ⟨some ⟨b, off, none⟩, 0, 0, k + 1, [], by first | rfl | (simp; omega), by first | rfl | simp [hk1], by omega, by omega, HK1.out, SlI.none (by unfold maxLen; omega), HKR.out, (fun x hx => by simp at hx), EW2.out⟩
            · have hnc : ¬ (c2 = sz) := hcc
              go_wp2
              go_roundg (r - sz)
              case measure => omega
              case rel => exact ⟨_, r - sz, _, k + 1, R.drop sz, by first | rfl | simp, by first | rfl | simp [hk1], by omega, by omega, HK1.out, HSZ.out, HKR.out, HVZ.out, EW2.out⟩
          | false =>
            have hle : L < y - x := by have := of_decide_eq_false hyl; omega
            have HKR := Lib.hid (show k + gr L sz (R.drop 1) = G by rw [← KR.out, HGR.out, HWIN.out, hyl, if_neg (by simp)])
            clear hyl
            go_wp2_with fail
            refine wp_region_tame (fun W => Ext wr W) (fun W W' => Ext W W') (by kernel_rfl) 67 rfl (by decide +kernel) (Ext.refl _).drew ?_
            repeat (apply tame_q rfl; (intro ρ W hC hr hD; (obtain ⟨hrc, hrg, hrf, hrs⟩ := hr); (simp [go_sem] at hD); go_simp; first | exact ⟨⟨hC, Ext.refl _⟩, rfl⟩ | exact ⟨⟨hC, RS.refl _⟩, rfl⟩ | exact rfl); simp only [List.nil_append, List.cons_append])
            refine tame_end 67 rfl rfl (fun ρ W' hC hr hF => ?_)
            obtain ⟨hrc', hrg, hrf, hrs⟩ := hr
            simp [go_sem] at hF
            apply frame_to
            · go_simp
              exact rfl
            have EW2 := Lib.hid (EW.out.trans hC)
            clear hF hrs hrc' hrg hrf hC c0 c1 hb1 b0 b1 b2 bf bl
            obtain ⟨b0, b1, b2, bf, bl⟩ := (HB3.out.ext (HE5.out.trans EW2.out)).c3
            by_cases hcc : c2 = 1
            · exfalso; omega
            · have hnc : ¬ (c2 = 1) := hcc
              go_wp2
              go_roundg (r - 1)
              case measure => omega
              case rel => exact ⟨_, r - 1, _, k, R.drop 1, by first | rfl | simp, rfl, by omega, by omega, by omega, HS1.out, HKR.out, HV1.out, EW2.out⟩
        · have hgez : ¬ (sz : Int) ≤ (r : Int) := by omega
          have hlz : (r : Int) < (sz : Int) := by omega
          have HKF := Lib.hid (show k = G by have h := KR.out; rw [gr_short L sz R (by have := HRL.out; omega)] at h; omega)
          obtain ⟨b0, b1, b2, bf, bl⟩ := (HB3.out.ext (HE5.out.trans EW.out)).c3
          have HEE := Lib.hid (HE3.out.trans (HE5.out.trans EW.out))
          go_wp2
          go_ret2
          exact ⟨by rw [← HV.out, ← HE0.out, HM.out.1, HM.out.2, HGN.out, ← HKF.out]; rfl, HEE.out⟩
end Go.Proofs.YtkpengeaolcjhaaGreatDoor
