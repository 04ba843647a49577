/- mill.in; slices.IndexFunc and ContainsFunc at cottons; cmp.Less, Or; slices.IsSorted and Compact at numbers. -/
import Derived.Test.YtkpengeaolcjhaaGreatDoorPkMlBestCardM
import Derived.Test.YtkpengeaolcjhaaGreatDoorPkMlBestCardN
import Derived.Test.YtkpengeaolcjhaaGreatDoorPkMlBestCardC
namespace Go.Proofs.YtkpengeaolcjhaaGreatDoor
open Go.RowKit Go.Shelf Go.Lib
set_option maxRecDepth 100000
set_option linter.unusedSimpArgs false

theorem f143_any (lo hi n : Int) (B1 B2 : Nat) (w : World) (h1 : w.cell? ⟨B1, 0, none⟩ = some (.int .i64 lo)) (h2 : w.cell? ⟨B2, 0, none⟩ = some (.int .i64 hi)) :
    Calls Tryz.prog 143 #[.int .i64 n, .pointer (some ⟨B1, 0, none⟩), .pointer (some ⟨B2, 0, none⟩)] w fun e w' => e = .returned (.bool (!inB lo hi n)) ∧ Ext w w' := by
  go_enter Tryz.func143, Tryz.ntmps143
  go_wp2
  all_goals go_ret
  all_goals exact ⟨ret_bool (by rw [← not_inB]; try simp [*]), Ext.refl w⟩

theorem inM_any (lo hi : Int) (l : List Int) (v : Value) (w : World) (hs : SlI w v l) :
    Calls Tryz.prog 107 #[.int .i64 lo, .int .i64 hi, v] w fun e w' => e = .returned (.bool (l.all (inB lo hi))) ∧ Ext w w' := by
  have hmf : ∀ (fn : Fn) (first cap : Array Value) (w : World), (Instr.makeFunc fn first cap).run Tryz.prog w = .ok (.func fn first cap) w := fun _ _ _ _ => rfl
  have HS := Lib.hid hs; clear hs
  go_enter Tryz.func107, Tryz.ntmps107
  go_wp2_with fail
  refine (f135_any 143 _ (enters_of Tryz.func143 (by kernel_rfl) rfl) (fun n => !inB lo hi n) l v _ ((HS.out.ext (Ext.al _ _)).ext (Ext.al _ _)) ?_).mono ?_
  · intro W x _ hW
    exact f143_any lo hi x w.heap.size (w.heap.size + 1) W ((hW.cell (p := ⟨w.heap.size, 0, none⟩) (by simp; omega)).trans (by simp [go_sem])) ((hW.cell (p := ⟨w.heap.size + 1, 0, none⟩) (by simp)).trans (by simp [go_sem]))
  rintro e w' ⟨rfl, hb'⟩
  go_wp2
  go_ret
  exact ⟨ret_bool (by simp [List.all_eq_not_any_not]), ((Ext.al _ _).trans (Ext.al _ _)).trans hb'⟩

theorem inM1_any (lo hi n : Int) (B : Nat) (W : World) (hb : B < W.heap.size) (hc : W.cell? ⟨B, 0, none⟩ = some (.int .i64 n)) :
    Calls Tryz.prog 107 #[.int .i64 lo, .int .i64 hi, .slice (some ⟨B, 0, none⟩) 1 1] W fun e w' => e = .returned (.bool (inB lo hi n)) ∧ Ext W w' :=
  (inM_any lo hi [n] _ W (SlI.lit [n] hb (by simp [maxLen]) (fun j x hx => by match j, hx with | 0, hx => simp at hx; subst hx; exact hc))).mono fun e w' ⟨he, hw⟩ => ⟨by rw [he]; exact ret_bool (by simp), hw⟩

set_option maxHeartbeats 400000 in
theorem f196_any (g : FuncId) (cap : Array Value) (eg : ∀ args w, (callFunc g args).run Tryz.prog w = .ok (.enter g args) w) (p : Rc → Bool) (l : List Rc) (v : Value) (w : World) (hs : SlC w v l) (hp : Pred valC g cap p l w) :
    Calls Tryz.prog 196 #[v, .func (.func g) #[] cap] w fun e w' => e = .returned (.int .i64 (idxF p l)) ∧ Ext w w' := by
  obtain ⟨A, n, c, rfl, hn, hlc, hcm⟩ := hs.form
  have HP := Lib.hid hp; clear hp
  go_enter Tryz.func196, Tryz.ntmps196
  go_wp2
  go_loopg [5, 8] n (fun gg _ s8 wr => ∃ kk : Nat, kk ≤ n ∧ n - kk ≤ gg ∧ s8 = .int .i64 kk ∧ Aside (Ext w wr) ∧ Aside (∀ j y, j < kk → l[j]? = some y → p y = false))
  case atStart => exact ⟨0, Nat.zero_le _, by omega, rfl, Ext.refl w, fun j y hj => absurd hj (Nat.not_lt_zero _)⟩
  case round =>
    obtain ⟨kk, hkk, hg, rfl, BW, FA⟩ := hrel
    by_cases hlt : kk < n
    · have hltz : (kk : Int) < (n : Int) := by omega
      obtain ⟨b, off, x, rfl, hx, hb, hcell⟩ := hs.at_ hlt
      obtain ⟨c0, c1, c2, c3, c4, c5, c6, c7⟩ := SlC.cells hcell BW.out
      have hcall := HP.out wr x (List.mem_of_getElem? hx) BW.out
      have HX := Lib.hid hx; clear hx hcell hs
      cases hq : p x with
      | true =>
        rw [hq] at hcall
        have HC := Lib.hid hcall; clear hcall
        have HQ := Lib.hid hq; clear hq
        go_wp2_with (go_at_fn g; refine HC.out.mono ?_; rintro e w' ⟨rfl, hb'⟩)
        go_ret
        exact ⟨by rw [idxF_some p l kk x HX.out HQ.out FA.out]; rfl, BW.out.trans hb'⟩
      | false =>
        rw [hq] at hcall
        have HC := Lib.hid hcall; clear hcall
        have HQ := Lib.hid hq; clear hq
        go_wp2_with (go_at_fn g; refine HC.out.mono ?_; rintro e w' ⟨rfl, hb'⟩)
        go_roundg (n - (kk + 1))
        case measure => omega
        case rel => exact ⟨kk + 1, by omega, by omega, rfl, BW.out.trans hb', fun j y hj hy => by
          rcases Nat.lt_succ_iff_lt_or_eq.1 hj with h | rfl
          · exact FA.out j y h hy
          · rw [HX.out] at hy; cases hy; exact HQ.out⟩
    · have HE := Lib.hid (show kk = n by omega); clear hs
      go_wp2
      go_ret
      exact ⟨by rw [idxF_none p l (fun x hx => by obtain ⟨j, hj⟩ := List.getElem?_of_mem hx; exact FA.out j x (by have := (List.getElem?_eq_some_iff.1 hj).1; have := HE.out; have := hn.out; omega) hj)]; rfl, BW.out⟩


theorem f189_any (g : FuncId) (cap : Array Value) (eg : ∀ args w, (callFunc g args).run Tryz.prog w = .ok (.enter g args) w) (p : Rc → Bool) (l : List Rc) (v : Value) (w : World) (hs : SlC w v l) (hp : Pred valC g cap p l w) :
    Calls Tryz.prog 189 #[v, .func (.func g) #[] cap] w fun e w' => e = .returned (.bool (l.any p)) ∧ Ext w w' := by
  have HP := Lib.hid hp; clear hp
  have HS := Lib.hid hs; clear hs
  go_enter Tryz.func189, Tryz.ntmps189
  go_wp2_with (go_at_call 196; refine (f196_any g cap eg p l v _ HS.out HP.out).mono ?_; rintro e w' ⟨rfl, hb'⟩)
  go_ret
  exact ⟨ret_bool (idxF_any p l), hb'⟩


def cmpI (a b : Int) : Int := if a < b then -1 else if b < a then 1 else 0
theorem nan_any (x : Int) (w : World) : Calls Tryz.prog 111 #[.int .i64 x] w fun e w' => e = .returned (.bool false) ∧ Ext w w' := by
  go_enter Tryz.func111, Tryz.ntmps111
  go_wp2
  go_ret
  exact ⟨by simp, Ext.refl _⟩
theorem compare_any (a b : Int) (w : World) : Calls Tryz.prog 75 #[.int .i64 a, .int .i64 b] w fun e w' => e = .returned (.int .i64 (cmpI a b)) ∧ Ext w w' := by
  go_enter Tryz.func75, Tryz.ntmps75
  go_wp2_with fail
  refine (nan_any a w).mono ?_
  rintro e w1 ⟨rfl, hE1⟩
  have HE1 := Lib.hid hE1; clear hE1
  go_wp2_with fail
  refine (nan_any b w1).mono ?_
  rintro e w2 ⟨rfl, hE2⟩
  have HE2 := Lib.hid (HE1.out.trans hE2); clear hE2
  by_cases h1 : a < b
  · have HC := Lib.hid (show cmpI a b = -1 by unfold cmpI; rw [if_pos h1])
    go_wp2
    go_ret
    exact ⟨by rw [HC.out]; rfl, HE2.out⟩
  · by_cases h2 : b < a
    · have HC := Lib.hid (show cmpI a b = 1 by unfold cmpI; rw [if_neg h1, if_pos h2])
      go_wp2
      go_ret
      exact ⟨by rw [HC.out]; rfl, HE2.out⟩
    · have HC := Lib.hid (show cmpI a b = 0 by unfold cmpI; rw [if_neg h1, if_neg h2])
      go_wp2
      go_ret
      exact ⟨by rw [HC.out]; rfl, HE2.out⟩
theorem wrap_nat {k : Nat} (h : k ≤ 100000) : IntKind.i64.wrap (k : Int) = (k : Int) := by
  rw [IntKind.wrap_i64]
  omega
theorem less_any (a b : Int) (w : World) : Calls Tryz.prog 124 #[.int .i64 a, .int .i64 b] w fun e w' => e = .returned (.bool (decide (a < b))) ∧ Ext w w' := by
  go_enter Tryz.func124, Tryz.ntmps124
  go_wp2_with fail
  refine (nan_any a w).mono ?_
  rintro e w1 ⟨rfl, hE1⟩
  have HE1 := Lib.hid hE1; clear hE1
  go_wp2
  go_ret
  exact ⟨rfl, HE1.out⟩
set_option maxHeartbeats 1000000 in
theorem sorted_any (l : List Int) (v : Value) (w : World) (hs : SlI w v l) : Calls Tryz.prog 192 #[v] w fun e w' => e = .returned (.bool (notDown l)) ∧ Ext w w' := by
  obtain ⟨A, n, c, rfl, hn, hlc, hcm⟩ := hs.form
  have HS := Lib.hid hs; clear hs
  go_enter Tryz.func192, Tryz.ntmps192
  have hw0 : IntKind.i64.wrap ((n : Int) - 1) = (n : Int) - 1 := by rw [IntKind.wrap_i64]; omega
  go_wp2
  go_loopg [3] n (fun gg s3 wr => ∃ i : Int, s3 = .int .i64 i ∧ -1 ≤ i ∧ i < n ∧ i.toNat ≤ gg ∧ Aside (Ext w wr) ∧ Aside (∀ (k : Nat) (a b : Int), i ≤ k → l[k]? = some a → l[k + 1]? = some b → a ≤ b))
  case atStart => exact ⟨(n : Int) - 1, rfl, by omega, by omega, by omega, Ext.refl w, fun k a b hk _ hb => by
    have := (List.getElem?_eq_some_iff.1 hb).1; have := hn.out; omega⟩
  case round =>
    obtain ⟨i, rfl, hi0, hi1, hg, BW, FA⟩ := hrel
    by_cases hlt : 0 < i
    · obtain ⟨k, rfl⟩ : ∃ k : Nat, i = (k : Int) + 1 := ⟨(i - 1).toNat, by omega⟩
      obtain ⟨b, off, x, rfl, hx, hb, hcell⟩ := HS.out.at_ (show k < n by omega)
      obtain ⟨b', off', y, e1, hy, hb', hcell'⟩ := HS.out.at_ (show k + 1 < n by omega)
      injection e1 with e1
      injection e1 with e1 e2 _
      subst e1 e2
      have q0 := fun W (h : Ext wr W) => SlI.cell hcell (BW.out.trans h)
      have q1 := fun W (h : Ext wr W) => SlI.cell hcell' (BW.out.trans h)
      have HX := Lib.hid hx; have HY := Lib.hid hy
      have hw1 : IntKind.i64.wrap (k : Int) = (k : Int) := by rw [IntKind.wrap_i64]; omega
      have hkz : (k : Int) < (n : Int) := by omega
      have hkz1 : (k : Int) + 1 < (n : Int) := by omega
      have hk0 : (0 : Int) ≤ (k : Int) + 1 := by omega
      clear hx hy hcell hcell'
      go_wp2_with fail
      refine wp_region_tame (fun W => Ext wr W) (fun W W' => Ext W W') (by kernel_rfl) 21 rfl (by decide +kernel) (Ext.refl _).drew ?_
      repeat (apply tame_q rfl; (intro ρ W hC hr hD; (obtain ⟨hrc, hrg, hrf, hrs⟩ := hr); (simp [go_sem] at hD); go_simp; first | exact ⟨⟨hC, Ext.refl _⟩, rfl⟩ | exact ⟨⟨hC, RS.refl _⟩, rfl⟩ | exact rfl); simp only [List.nil_append, List.cons_append])
      apply tame_q rfl
      · intro ρ W hC hr hD
        obtain ⟨hrc, hrg, hrf, hrs⟩ := hr
        simp [go_sem] at hD
        go_simp
        refine (less_any y x W).mono ?_
        rintro e w' ⟨rfl, hE⟩
        exact ⟨_, rfl, ⟨hC.trans hE, hE⟩, rfl⟩
      simp only [List.nil_append, List.cons_append]
      refine tame_end 21 rfl rfl (fun ρ W hC hr hF => ?_)
      obtain ⟨hrc, hrg, hrf, hrs⟩ := hr
      simp [go_sem] at hF
      apply frame_to
      · go_simp
        exact rfl
      clear hF hrs hrc hrg hrf
      have HE := Lib.hid (BW.out.trans hC); clear hC q0 q1
      by_cases hyx : y < x
      · have HQ := Lib.hid (show notDown l = false by
          rw [Bool.eq_false_iff]; intro h
          have := (notDown_iff l).1 h k x y HX.out HY.out; omega)
        go_wp2
        go_ret
        exact ⟨by rw [HQ.out]; rfl, HE.out⟩
      · have HQ := Lib.hid (show x ≤ y by omega)
        go_wp2
        go_roundg k
        case measure => omega
        case rel => exact ⟨(k : Int), rfl, by omega, by omega, by omega, HE.out, fun j a b hj ha hb2 => by
          by_cases hjk : j = k
          · subst hjk
            rw [HX.out] at ha; rw [HY.out] at hb2
            injection ha with ha; injection hb2 with hb2
            have := HQ.out; omega
          · exact FA.out j a b (by omega) ha hb2⟩
    · have HQ := Lib.hid (show notDown l = true from (notDown_iff l).2 fun k a b ha hb => FA.out k a b (by omega) ha hb)
      have hd0 : decide (0 < i) = false := decide_eq_false hlt
      have hle : i ≤ 0 := by omega
      go_wp2
      go_ret
      exact ⟨by rw [HQ.out]; rfl, BW.out⟩

theorem noTwins_short {l : List Int} (h : l.length < 2) : noTwins l = true := (noTwins_iff l).2 fun k a b _ hb => by
  have := (List.getElem?_eq_some_iff.1 hb).1
  omega
set_option maxHeartbeats 2000000 in
theorem compact_any (l : List Int) (v : Value) (base : Nat) (w : World) (hb : base ≤ w.heap.size) (ho : Own encI 3 1 w base v l) (hlen : l.length ≤ 1000) :
    Calls Tryz.prog 193 #[v] w fun e w' => (∃ A n c, e = .returned (.slice A n c) ∧ n ≤ l.length ∧ decide (n = l.length) = noTwins l) ∧ Below base w w' := by
  have HO := Lib.hid ho
  have hsl : SlI w v l := Own.sl (enc := encI) (fun _ => rfl) ho
  obtain ⟨A, n, c, rfl, hn, hlc, hcm⟩ := hsl.form
  have HN := Lib.hid (show n = l.length from hn.out)
  by_cases h2 : n < 2
  · have h2z : (n : Int) < 2 := by omega
    have HT := Lib.hid (noTwins_short (l := l) (by have := HN.out; omega))
    have HB := Lib.hid hb
    clear ho hsl hn
    go_enter Tryz.func193, Tryz.ntmps193
    go_wp2
    go_ret
    exact ⟨⟨_, _, _, rfl, by have := HN.out; omega, by rw [HT.out]; exact decide_eq_true HN.out⟩, Below.refl _ _⟩
  have h2z : ¬ (n : Int) < 2 := by omega
  obtain ⟨g, hbg, rfl⟩ : ∃ g, base ≤ g ∧ A = some ⟨g, 0, none⟩ := by
    rcases own_form ho with ⟨h1, -⟩ | ⟨g, cap, cur, h1, h3, -⟩
    · injection h1 with _ h1 _; omega
    · injection h1 with h1 _ _; exact ⟨g, h3, h1⟩
  have hnz : (n : Int) ≤ 9223372036854775807 := by have := HN.out; omega
  have hn1 : n ≤ 1000 := by have := HN.out; omega
  have HB := Lib.hid hb
  clear ho hsl hn
  go_enter Tryz.func193, Tryz.ntmps193
  go_wp2
  go_loopg [3] n (fun gg s3 wr => ∃ k : Nat, s3 = .int .i64 ((k : Int) + 1) ∧ k + 1 ≤ n ∧ n - k ≤ gg ∧ Aside (Ext w wr) ∧ Aside (∀ (j : Nat) (a b : Int), j < k → l[j]? = some a → l[j + 1]? = some b → b ≠ a))
  case atStart => exact ⟨0, by simp, by omega, by omega, Ext.refl w, fun j a b hj => by omega⟩
  case round =>
    obtain ⟨k, rfl, hk, hg, BW, FA⟩ := hrel
    have OM := Lib.hid (HO.out.ext BW.out)
    have hsl : SlI wr (.slice (some ⟨g, 0, none⟩) n c) l := Own.sl (enc := encI) (fun _ => rfl) OM.out
    by_cases hlt : k + 1 < n
    · have hltz : (k : Int) + 1 < (n : Int) := by omega
      have hk0 : (0 : Int) ≤ (k : Int) + 1 := by omega
      have hw1 : IntKind.i64.wrap (k : Int) = (k : Int) := by rw [IntKind.wrap_i64]; omega
      have hw2 : IntKind.i64.wrap ((k : Int) + 1 + 1) = (k : Int) + 1 + 1 := by rw [IntKind.wrap_i64]; omega
      have hkz : (k : Int) < (n : Int) := by omega
      obtain ⟨b, off, x, e0, hx, hb1, hcell⟩ := hsl.at_ (show k < n by omega)
      obtain ⟨b', off', y, e1, hy, hb', hcell'⟩ := hsl.at_ hlt
      injection e0 with e0
      injection e0 with e0 e2 _
      subst e0 e2
      injection e1 with e1
      injection e1 with e1 e2 _
      subst e1 e2
      have q0 := fun W (h : Ext wr W) => (show W.cell? ⟨g, k, none⟩ = some (.int .i64 x) by have := SlI.cell hcell h; rwa [Nat.zero_add] at this)
      have q1 := fun W (h : Ext wr W) => (show W.cell? ⟨g, k + 1, none⟩ = some (.int .i64 y) by have := SlI.cell hcell' h; rwa [Nat.zero_add] at this)
      have HX := Lib.hid hx; have HY := Lib.hid hy
      clear hx hy hcell hcell' hsl
      go_wp2_with fail
      refine wp_region_tame (fun W => Ext wr W) (fun W W' => Ext W W') (by kernel_rfl) 61 rfl (by decide +kernel) (Ext.refl _).drew ?_
      repeat (apply tame_q rfl; (intro ρ W hC hr hD; (obtain ⟨hrc, hrg, hrf, hrs⟩ := hr); (simp [go_sem] at hD); go_simp; first | exact ⟨⟨hC, Ext.refl _⟩, rfl⟩ | exact ⟨⟨hC, RS.refl _⟩, rfl⟩ | exact rfl); simp only [List.nil_append, List.cons_append])
      refine tame_end 61 rfl rfl (fun ρ W hC hr hF => ?_)
      obtain ⟨hrc, hrg, hrf, hrs⟩ := hr
      simp [go_sem] at hF
      apply frame_to
      · go_simp
        exact rfl
      clear hF hrs hrc hrg hrf
      have HE := Lib.hid (BW.out.trans hC); have OM2 := Lib.hid (OM.out.ext hC)
      clear hC q0 q1
      by_cases hyx : y = x
      · subst hyx
        have HT := Lib.hid (show noTwins l = false by
          rw [Bool.eq_false_iff]; intro h
          exact (noTwins_iff l).1 h k y y HX.out HY.out rfl)
        have hkz : (k : Int) + 1 ≤ (n : Int) := by omega
        have hkc : (k : Int) + 1 ≤ (c : Int) := by omega
        clear FA
        simp only [beq_self_eq_true]
        go_wp2
        have HN2 := Lib.hid (show (n - (k + 1)) + (k + 1) = n by omega)
        have hN2 : 1 ≤ n - (k + 1) := by omega
        generalize n - (k + 1) = N2 at *
        generalize c - (k + 1) = c2 at *
        obtain ⟨wo, hwo⟩ : ∃ wo, wo = W := ⟨_, rfl⟩
        subst hwo
        go_loopg [3, 5] N2 (fun gg s3 s5 wr => ∃ (kk j : Nat) (m : List Int), s3 = .int .i64 (kk : Int) ∧ s5 = .int .i64 ((j : Int) + 1) ∧ j + 1 ≤ N2 ∧ kk ≤ k + 1 + j ∧ N2 - j ≤ gg ∧ m.length = n ∧ Aside (Own encI 3 1 wr base (.slice (some ⟨g, 0, none⟩) n c) m) ∧ Aside (Below base w wr))
        case atStart => exact ⟨k + 1, 0, l, by simp, by simp, by omega, by omega, by omega, HN.out.symm, OM2.out, HE.out.mono HB.out⟩
        case round =>
          obtain ⟨kk, j, m, rfl, rfl, hj, hkk, hgg, hml, OJ, BJ⟩ := hrel
          have hsm : SlI wr (.slice (some ⟨g, 0, none⟩) n c) m := Own.sl (enc := encI) (fun _ => rfl) OJ.out
          by_cases hjn : j + 1 < N2
          · have hjz : (j : Int) + 1 < (N2 : Int) := by omega
            have hjz1 : (j : Int) < (N2 : Int) := by omega
            have hj0 : (0 : Int) ≤ (j : Int) + 1 := by omega
            have hwj : IntKind.i64.wrap (j : Int) = (j : Int) := by rw [IntKind.wrap_i64]; have := HN2.out; omega
            have hwj2 : IntKind.i64.wrap ((j : Int) + 1 + 1) = (j : Int) + 1 + 1 := by rw [IntKind.wrap_i64]; have := HN2.out; omega
            obtain ⟨b, off, p, e0, hp, hb1, hcell⟩ := hsm.at_ (show k + 1 + j < n by have := HN2.out; omega)
            obtain ⟨b', off', q, e1, hq, hb', hcell'⟩ := hsm.at_ (show k + 1 + (j + 1) < n by have := HN2.out; omega)
            injection e0 with e0
            injection e0 with e0 e2 _
            subst e0 e2
            injection e1 with e1
            injection e1 with e1 e2 _
            subst e1 e2
            have q0 := fun W (h : Ext wr W) => (show W.cell? ⟨g, k + 1 + j, none⟩ = some (.int .i64 p) by have := SlI.cell hcell h; rwa [Nat.zero_add] at this)
            have q1 := fun W (h : Ext wr W) => (show W.cell? ⟨g, k + 1 + (j + 1), none⟩ = some (.int .i64 q) by have := SlI.cell hcell' h; rwa [Nat.zero_add] at this)
            clear hcell hcell' hsm hp hq
            go_wp2_with fail
            refine wp_region_tame (fun W => Ext wr W) (fun W W' => Ext W W') (by kernel_rfl) 61 rfl (by decide +kernel) (Ext.refl _).drew ?_
            repeat (apply tame_q rfl; (intro ρ W hC hr hD; (obtain ⟨hrc, hrg, hrf, hrs⟩ := hr); (simp [go_sem] at hD); go_simp; first | exact ⟨⟨hC, Ext.refl _⟩, rfl⟩ | exact ⟨⟨hC, RS.refl _⟩, rfl⟩ | exact rfl); simp only [List.nil_append, List.cons_append])
            refine tame_end 61 rfl rfl (fun ρ W hC hr hF => ?_)
            obtain ⟨hrc, hrg, hrf, hrs⟩ := hr
            simp [go_sem] at hF
            apply frame_to
            · go_simp
              exact rfl
            clear hF hrs hrc hrg hrf
            have BJ2 := Lib.hid (BJ.out.trans (hC.mono (Nat.le_trans HB.out BJ.out.size))); have OJ2 := Lib.hid (OJ.out.ext hC)
            have c1 := q1 _ hC
            clear hC q0 q1
            by_cases hqp : q = p
            · subst hqp
              go_wp2
              go_roundg (N2 - (j + 1))
              case measure => omega
              case rel => exact ⟨kk, j + 1, m, rfl, by simp, by omega, by omega, by omega, hml, OJ2.out, BJ2.out⟩
            · have hqb : (q == p) = false := by simpa using hqp
              have hkn : kk < n := by have := HN2.out; omega
              have hknz : (kk : Int) < (n : Int) := by omega
              have hwk : IntKind.i64.wrap ((kk : Int) + 1) = (kk : Int) + 1 := by rw [IntKind.wrap_i64]; omega
              have df : ∀ k, W.frozen? ⟨g, k, none⟩ = false := fun k => own_frozen OJ2.out k
              obtain ⟨b3, off3, z, e3, -, -, hcz⟩ := (show SlI W (.slice (some ⟨g, 0, none⟩) n c) m from Own.sl (enc := encI) (fun _ => rfl) OJ2.out).at_ hkn
              injection e3 with e3
              injection e3 with e3 e4 _
              subst e3 e4
              have cz := SlI.cell hcz (Ext.refl _)
              rw [Nat.zero_add] at cz
              clear hcz
              have OJ3 := Lib.hid (own_put1 (x := q) OJ2.out hml.symm hkn)
              have BJ3 := Lib.hid (BJ2.out.setCell (p := ⟨g, kk, none⟩) hbg (.int .i64 q))
              go_wp2
              go_roundg (N2 - (j + 1))
              case measure => omega
              case rel => exact ⟨kk + 1, j + 1, m.set kk q, by simp, by simp, by omega, by omega, by omega, by rw [List.length_set]; exact hml, OJ3.out, BJ3.out⟩
          · have hkn : kk < n := by have := HN2.out; omega
            obtain ⟨w', hr, HOC, hgr⟩ := run_clear_own (enc := encI) (sz := 1) (fun _ => rfl) (t := 36) (e := 3) (ty := 0) (z := .int .i64 0) Tryz.underlying36 Tryz.zeroValue3 rfl (by decide) (by decide) (k := kk) (c := c - kk) OJ.out hml.symm (by omega)
            simp only [Nat.mul_one] at hr
            have HBE := Lib.hid (BJ.out.trans (row_below hgr (Nat.le_trans HB.out BJ.out.size) hbg))
            have hle : kk ≤ n := by omega
            have hlez : (kk : Int) ≤ (n : Int) := by omega
            have hkc2 : kk ≤ c := by omega
            have hkc2z : (kk : Int) ≤ (c : Int) := by omega
            clear hgr hsm
            go_wp2
            go_ret
            exact ⟨⟨_, _, _, rfl, by have := HN.out; omega, by rw [HT.out]; exact decide_eq_false (by have := HN.out; omega)⟩, HBE.out⟩
      · have HXY := Lib.hid hyx
        have hyx' : (y == x) = false := by simpa using hyx
        clear hyx
        go_wp2
        go_roundg (n - (k + 1))
        case measure => omega
        case rel => exact ⟨k + 1, by simp, by omega, by omega, HE.out, fun j a b hj ha hb2 => by
          by_cases hjk : j = k
          · subst hjk
            rw [HX.out] at ha; rw [HY.out] at hb2
            injection ha with ha; injection hb2 with hb2
            rw [← ha, ← hb2]; exact HXY.out
          · exact FA.out j a b (by omega) ha hb2⟩
    · have HT := Lib.hid (show noTwins l = true from (noTwins_iff l).2 fun j a b ha hb2 => FA.out j a b (by have := (List.getElem?_eq_some_iff.1 hb2).1; have := HN.out; omega) ha hb2)
      have HBE := Lib.hid (BW.out.mono HB.out)
      clear hsl FA
      go_wp2
      go_ret
      exact ⟨⟨_, _, _, rfl, by have := HN.out; omega, by rw [HT.out]; exact decide_eq_true HN.out⟩, HBE.out⟩
end Go.Proofs.YtkpengeaolcjhaaGreatDoor
/- mill.ids, the checks of a mill, Check. -/
namespace Go.Proofs.YtkpengeaolcjhaaGreatDoor
open Go.RowKit Go.Shelf Go.Lib
set_option maxRecDepth 100000
set_option linter.unusedSimpArgs false

abbrev valM (lots size : Int) (sv : Value) : Value := .agg #[.int .i64 lots, .int .i64 size, sv]
set_option maxHeartbeats 1000000 in
theorem ids_any (lots size : Int) (l : List Rc) (sv : Value) (w : World) (hs : SlC w sv l) (hlen : l.length ≤ 1000) :
    Calls Tryz.prog 59 #[valM lots size sv] w fun e w' => (∃ v, e = .returned v ∧ Own encI 3 1 w' w.heap.size v (l.map (·.c.b.id))) ∧ Ext w w' := by
  obtain ⟨A, n, c, rfl, hn, hlc, hcm⟩ := hs.form
  have HS := Lib.hid hs; clear hs
  have HN := Lib.hid hlen
  go_enter Tryz.func59, Tryz.ntmps59
  go_wp2
  go_loopg [3, 9] n (fun gg v s9 wr => ∃ kk : Nat, kk ≤ n ∧ n - kk ≤ gg ∧ s9 = .int .i64 kk ∧ Aside (Own encI 3 1 wr w.heap.size v ((l.take kk).map (·.c.b.id))) ∧ Aside (Ext w wr) ∧ Aside (w.heap.size < wr.heap.size))
  case atStart => exact ⟨0, Nat.zero_le _, by omega, rfl, Own.nil _ _, Ext.al _ _, by show _ < _; simp⟩
  case round =>
    obtain ⟨kk, hkk, hg, rfl, OW, BW, HZ⟩ := hrel
    by_cases hlt : kk < n
    · have hltz : (kk : Int) < (n : Int) := by omega
      obtain ⟨b, off, x, rfl, hx, hb, hcell⟩ := HS.out.at_ hlt
      obtain ⟨c0, c1, c2, c3, c4, c5, c6, c7⟩ := SlC.cells hcell BW.out
      have HT := Lib.hid (show (l.take (kk + 1)).map (·.c.b.id) = (l.take kk).map (·.c.b.id) ++ [x.c.b.id] by rw [List.take_add_one, hx, List.map_append]; rfl)
      have HLN := Lib.hid (show ((l.take kk).map (·.c.b.id)).length = kk by have := hn.out; rw [List.length_map, List.length_take]; omega)
      generalize (l.take kk).map (·.c.b.id) = L0 at *
      have HL := Lib.hid (show L0.length < 100000000000 by have := hn.out; have := HN.out; have := HLN.out; omega)
      clear hx hcell
      go_wp2_with (at_builtin; refine wpList_app encI 36 3 1 _ 8 Tryz.underlying36 info3x rfl (by decide) (by decide) (fun _ => rfl) encI_one rfl (.tmp 13) (.tmp 17) rfl w.heap.size _ L0 rfl ((OW.out.alloc _).alloc _) (wr.heap.size + 1) 1 x.c.b.id rfl (cells1 (by simp [go_sem])) HL.out (by have := BW.out.size; simp; omega) ?_)
      intro g cap w' hown hg2 hbel _
      have hlr := HLN.out
      rw [hlr] at hown
      have HO := Lib.hid (show Own encI 3 1 w' w.heap.size (.slice (some ⟨g, 0, none⟩) (kk + 1) cap) ((l.take (kk + 1)).map (·.c.b.id)) by rw [HT.out]; exact hown)
      have HB := Lib.hid (show Ext w w' from Below.trans ((BW.out.alloc _).alloc _) hbel)
      have HZ2 := Lib.hid (show w.heap.size < w'.heap.size by have := HZ.out; have := hbel.size; simp at this; omega)
      clear hown hbel
      go_wp2
      go_roundg (n - (kk + 1))
      case measure => omega
      case rel => exact ⟨kk + 1, by omega, by omega, rfl, by rw [hlr]; exact HO.out, HB.out, HZ2.out⟩
    · have HE := Lib.hid (show kk = n by omega)
      go_wp2
      go_ret
      exact ⟨⟨_, rfl, by have := OW.out; rwa [List.take_of_length_le (by have := HE.out; have := hn.out; omega)] at this⟩, BW.out⟩

theorem f187_any (lots size : Int) (l : List Rc) (sv : Value) (w : World) (hs : SlC w sv l) :
    Calls Tryz.prog 187 #[valM lots size sv] w fun e w' => e = .returned (.bool (ck0 (mOf lots size l))) ∧ Ext w w' := by
  obtain ⟨A, n, c, rfl, hn, hlc, hcm⟩ := hs.form
  have HD := Lib.hid (show ck0 (mOf lots size l) = ((inB 1 3 lots && inB 2 4 size) && decide ((n : Int) ≤ 7)) by unfold ck0; rw [hn.out]; simp)
  clear hs hn
  go_enter Tryz.func187, Tryz.ntmps187
  go_wp2_with fail
  refine (inM1_any 1 3 lots _ _ (by simp) (by simp [go_sem])).mono ?_
  rintro e w1 ⟨rfl, hb1⟩
  obtain ⟨hc, hf⟩ := hb1.cells
  have hz := hb1.size
  simp at hz
  have E1 := Lib.hid (((Ext.al w _).trans (Ext.al _ _)).trans hb1); clear hb1
  have hz1 : w.heap.size < w1.heap.size := by omega
  cases hA : inB 1 3 lots
  · have HA := Lib.hid hA; clear hA
    go_wp2
    go_ret
    exact ⟨ret_bool (by rw [HD.out, HA.out]; rfl), E1.out⟩
  have HA := Lib.hid hA; clear hA
  go_wp2_with fail
  refine (inM1_any 2 4 size _ _ (by simp) (by simp [go_sem])).mono ?_
  rintro e w2 ⟨rfl, hb2⟩
  obtain ⟨hc2, hf2⟩ := hb2.cells
  have hz := hb2.size
  simp at hz
  have hz2 : w.heap.size < w2.heap.size := by omega
  have hz12 : w1.heap.size < w2.heap.size := by omega
  have E2 := Lib.hid ((E1.out.trans (Ext.al _ _)).trans hb2); clear hb2 E1
  cases hB : inB 2 4 size
  · have HB := Lib.hid hB; clear hB
    go_wp2
    go_ret
    exact ⟨ret_bool (by rw [HD.out, HA.out, HB.out]; rfl), E2.out⟩
  have HB := Lib.hid hB; clear hB
  go_wp2
  go_ret
  exact ⟨ret_bool (by rw [HD.out, HA.out, HB.out]; rfl), E2.out⟩

theorem f190_any (r : Rc) (w : World) (hT : Tab w) (hd : SlD w (.slice r.da r.dn r.dc) r.c.b.draws) (hw : SlW w (.slice r.wa r.wn r.wc) r.c.b.weighs) :
    Calls Tryz.prog 190 #[valC r] w fun e w' => e = .returned (.bool (!valid r.c.b)) ∧ Ext w w' := by
  have HT := Lib.hid hT; have HD := Lib.hid hd; have HW := Lib.hid hw
  clear hT hd hw
  go_enter Tryz.func190, Tryz.ntmps190
  go_wp2_with fail
  refine (check_any r.c.b r.dv r.wv _ (HT.out.ext (Ext.al _ _)) (HD.out.ext (Ext.al _ _)) (HW.out.ext (Ext.al _ _))).mono ?_
  rintro e w1 ⟨rfl, hb1⟩
  have E1 := Lib.hid ((Ext.al w _).trans hb1); clear hb1
  cases hv : valid r.c.b
  · have HV := Lib.hid hv; clear hv
    simp only [errB]
    go_wp2
    go_ret
    exact ⟨by rw [HV.out]; rfl, E1.out⟩
  · have HV := Lib.hid hv; clear hv
    simp only [errB]
    go_wp2
    go_ret
    exact ⟨by rw [HV.out]; rfl, E1.out⟩
theorem f188_any (lots size : Int) (l : List Rc) (sv : Value) (w : World) (hT : Tab w) (hs : MlC w sv l) :
    Calls Tryz.prog 188 #[valM lots size sv] w fun e w' => e = .returned (.bool (ck1 (mOf lots size l))) ∧ Ext w w' := by
  have HT := Lib.hid hT
  have HS := Lib.hid hs
  obtain ⟨A, n, c, rfl, hn, hlc, hcm⟩ := hs.1.form
  have HD := Lib.hid (show ck1 (mOf lots size l) = !(l.any fun r => !valid r.c.b) by unfold ck1; rw [List.any_map]; rfl)
  clear hs hn hT
  go_enter Tryz.func188, Tryz.ntmps188
  go_wp2_with fail
  refine (f189_any 190 _ (enters_of Tryz.func190 (by kernel_rfl) rfl) (fun r => !valid r.c.b) l _ _ (HS.out.1.ext (Ext.al _ _)) ?_).mono ?_
  · intro W x hx hW
    have hE := (Ext.al w (.cells #[.int .i64 lots, .int .i64 size, .slice A n c] 24)).trans hW
    simpa using f190_any x W (HT.out.ext hE) ((HS.out.2 x hx).1.ext hE) ((HS.out.2 x hx).2.ext hE)
  rintro e w1 ⟨rfl, hb1⟩
  generalize hr : (l.any fun r => !valid r.c.b) = r at HD
  clear hr
  go_wp2
  go_ret
  exact ⟨by rw [HD.out]; rfl, (Ext.al _ _).trans hb1⟩

theorem f195_any (r : Rc) (w : World) :
    Calls Tryz.prog 195 #[valC r] w fun e w' => e = .returned (.bool (badC r.c)) ∧ Ext w w' := by
  go_enter Tryz.func195, Tryz.ntmps195
  go_wp2_with fail
  refine (inM1_any 1 60 r.c.len _ _ (by simp) (by simp [go_sem])).mono ?_
  rintro e w1 ⟨rfl, hb1⟩
  obtain ⟨hc, hf⟩ := hb1.cells
  have hz := hb1.size
  simp at hz
  have E1 := Lib.hid (((Ext.al w _).trans (Ext.al _ _)).trans hb1); clear hb1
  have hz1 : w.heap.size < w1.heap.size := by omega
  cases hA : inB 1 60 r.c.len
  · have HA := Lib.hid hA; clear hA
    go_wp2
    go_ret
    exact ⟨ret_bool (by unfold badC; rw [HA.out]; rfl), E1.out⟩
  have HA := Lib.hid hA; clear hA
  go_wp2_with fail
  refine (inM1_any 1 200 r.c.str _ _ (by simp) (by simp [go_sem])).mono ?_
  rintro e w2 ⟨rfl, hb2⟩
  have E2 := Lib.hid ((E1.out.trans (Ext.al _ _)).trans hb2); clear hb2 E1
  go_wp2
  go_ret
  exact ⟨ret_bool (by unfold badC; rw [HA.out]; rfl), E2.out⟩
theorem f194_any (lots size : Int) (l : List Rc) (sv : Value) (w : World) (hs : SlC w sv l) :
    Calls Tryz.prog 194 #[valM lots size sv] w fun e w' => e = .returned (.bool (ck3 (mOf lots size l))) ∧ Ext w w' := by
  have HS := Lib.hid hs
  obtain ⟨A, n, c, rfl, hn, hlc, hcm⟩ := hs.form
  have HD := Lib.hid (show ck3 (mOf lots size l) = !(l.any fun r => badC r.c) by unfold ck3; rw [List.any_map]; rfl)
  clear hs hn
  go_enter Tryz.func194, Tryz.ntmps194
  go_wp2_with fail
  refine (f189_any 195 _ (enters_of Tryz.func195 (by kernel_rfl) rfl) (fun r => badC r.c) l _ _ (HS.out.ext (Ext.al _ _)) ?_).mono ?_
  · intro W x hx hW
    simpa using f195_any x W
  rintro e w1 ⟨rfl, hb1⟩
  generalize hr : (l.any fun r => badC r.c) = r at HD
  clear hr
  go_wp2
  go_ret
  exact ⟨by rw [HD.out]; rfl, (Ext.al _ _).trans hb1⟩

theorem tameG_w {P : Program} {C : World → Prop} {R : World → World → Prop} {a0 : Act} {ds : List (Option Tmp)} {Q : Act → World → Prop} {I : (Nat → Bool) → (Nat → Value) → World → Prop} {n : Nat} {o : Oper} {rest : List Oper} {F : Facts} {d : Tmp} (hd : o.dst = some d) (U : Value → World → Prop) (hst : ∀ v W W', C W' → R W W' → U v W → U v W')
    (hstep : ∀ ρ L W, C W → Rd a0 ds ρ → I L (fun t => ρ (.tmp t)) W → L F.length = false → (∀ e ∈ o.after, Region.binds .any e = true → L e.on = true) → (∀ e ∈ o.after, Region.binds .any e = true → Fact F ρ W e.on) →
      if runs F ρ o.guard then opGives P C R o ρ W (fun v W' => U v W' ∧ I (updD L F.length true) (updD (fun t => ρ (.tmp t)) d v) W') else U undef W ∧ I (updD L F.length true) (updD (fun t => ρ (.tmp t)) d undef) W)
    (h : wpTameG P C R I ds a0 Q n rest (F ++ [(some d, U)])) : wpTameG P C R I ds a0 Q n (o :: rest) F := by
  refine ⟨U, hst, fun L A W hC hS hIA hL hLs hD => ?_, by rw [hd]; exact h⟩
  have := hstep A.eval L W hC (Rd.of hS) hIA hL hLs hD
  rw [hd]
  exact this
/-- Until the fourth step is done the list is as it was; the fourth stands behind the second, that one behind the first. -/
def CkI (base : Nat) (v : Value) (ids : List Int) (L : Nat → Bool) (_ : Nat → Value) (W : World) : Prop := (L 4 = false → Own encI 3 1 W base v ids) ∧ (L 4 = true → L 2 = true) ∧ (L 2 = true → L 1 = true)
theorem CkI.other {base : Nat} {v : Value} {ids : List Int} {i d : Nat} (h1 : (i == 4) = false) (h2 : (i == 2) = false) : ∀ (L : Nat → Bool) (e : Nat → Value) (W : World) (u : Value), CkI base v ids L e W → CkI base v ids (updD L i true) (updD e d u) W := by
  intro L e W u h
  have n1 : (4 : Nat) ≠ i := fun x => by rw [← x] at h1; simp at h1
  have n2 : (2 : Nat) ≠ i := fun x => by rw [← x] at h2; simp at h2
  refine ⟨fun hL => ?_, fun hL => ?_, fun hL => ?_⟩
  · rw [updD_ne n1] at hL; exact h.1 hL
  · rw [updD_ne n1] at hL; rw [updD_ne n2]; exact h.2.1 hL
  · rw [updD_ne n2] at hL
    by_cases hi : (1 : Nat) = i
    · rw [hi, updD_self]
    · rw [updD_ne hi]; exact h.2.2 hL
def CmpV (L : Nat) (b : Bool) (v : Value) (_ : World) : Prop := ∃ A n c, v = .slice A n c ∧ n ≤ L ∧ decide (n = L) = b
def CmpN (L : Nat) (b : Bool) (v : Value) (_ : World) : Prop := ∃ n : Nat, v = .int .i64 (n : Int) ∧ n ≤ L ∧ decide (n = L) = b
set_option maxHeartbeats 2000000 in
theorem f191_any (lots size : Int) (l : List Rc) (sv : Value) (w : World) (hs : SlC w sv l) (hlen : l.length ≤ 1000) :
    Calls Tryz.prog 191 #[valM lots size sv] w fun e w' => e = .returned (.bool (ck2 (mOf lots size l))) ∧ Ext w w' := by
  have HS := Lib.hid hs
  obtain ⟨A, n, c, rfl, hn, hlc, hcm⟩ := hs.form
  have HD := Lib.hid (show ck2 (mOf lots size l) = (notDown (l.map (·.c.b.id)) && noTwins (l.map (·.c.b.id))) by unfold ck2 idsL; rw [List.map_map]; rfl)
  have HN := Lib.hid (show (l.map (·.c.b.id)).length = n by rw [List.length_map]; exact hn.out.symm)
  have HL := Lib.hid hlen
  have HNL := Lib.hid (show n ≤ 1000 by have := hn.out; omega)
  clear hs hn
  go_enter Tryz.func191, Tryz.ntmps191
  go_wp2_with fail
  refine (ids_any lots size l _ _ (HS.out.ext (Ext.al _ _)) hlen).mono ?_
  rintro e w1 ⟨⟨v, rfl, ho⟩, hE⟩
  have hz : (w.alloc (.cells #[.int .i64 lots, .int .i64 size, .slice A n c] 24)).heap.size = w.heap.size + 1 := by simp
  rw [hz] at ho
  have HO := Lib.hid ho
  have HB := Lib.hid ((Blk.new w 24 #[.int .i64 lots, .int .i64 size, .slice A n c]).ext hE)
  have HE := Lib.hid ((Ext.al w (.cells #[.int .i64 lots, .int .i64 size, .slice A n c] 24)).trans hE)
  have HZ := Lib.hid (show w.heap.size + 1 ≤ w1.heap.size by have := hE.size; omega)
  generalize l.map (·.c.b.id) = ids at *
  have hq2 := fun W (h : Below (w.heap.size + 1) w1 W) => (show W.cell? ⟨w.heap.size, 2, none⟩ = some (.slice A n c) from (World.cell?_of_block (a := ⟨w.heap.size, 2, none⟩) (h.block w.heap.size (by omega))).trans (HB.out.cell 2))
  clear ho hE hz hlen
  cases hnd : notDown ids
  · have HND := Lib.hid hnd
    clear hnd
    go_wp2_with fail
    refine wp_region_tame_cutkG (fun W => Below (w.heap.size + 1) w1 W) (fun _ _ => True) (CkI (w.heap.size + 1) v ids) (by kernel_rfl) 17 rfl 11 (by decide +kernel) (by decide +kernel) rfl (Below.refl _ _).drew ⟨fun _ => HO.out.ext (Ext.refl _).drew, fun h => (by cases h), fun h => (by cases h)⟩ ?_
    simp only [List.take, List.drop]
    repeat (apply tameG_q rfl (CkI.other rfl rfl); (intro ρ W hC hr hD; (obtain ⟨hrc, hrg, hrf, hrs⟩ := hr); (simp [go_sem] at hD); go_simp; first | exact ⟨⟨hC, trivial⟩, rfl⟩ | exact rfl); simp only [List.nil_append, List.cons_append])
    apply tameG_w rfl (fun x _ => x = .bool false) (fun _ _ _ _ _ h => h)
    · intro ρ L W hC hr hI hL hLs hD
      obtain ⟨hrc, hrg, hrf, hrs⟩ := hr
      simp [go_sem] at hD
      have hL1 : L 1 = false := hL
      have h4 : L 4 = false := by
        cases h : L 4 with
        | false => rfl
        | true => have := hI.2.2 (hI.2.1 h); rw [hL1] at this; cases this
      have ho := hI.1 h4
      have HI := Lib.hid hI; have HOW := Lib.hid ho; have HCC := Lib.hid hC
      clear hI hL hLs ho
      go_simp
      refine (sorted_any ids v W (HOW.out.sl (fun _ => rfl))).mono ?_
      rintro e w' ⟨rfl, hE⟩
      rw [HND.out]
      exact ⟨_, rfl, ⟨HCC.out.trans (hE.mono (Nat.le_trans HZ.out HCC.out.size)), trivial⟩, rfl, ⟨fun _ => HOW.out.ext hE, (fun h => by rw [updD_ne (by decide), h4] at h; cases h), (fun _ => by rw [updD_self])⟩⟩
    simp only [List.nil_append, List.cons_append]
    apply tameG_w rfl (fun x _ => x = .bool false) (fun _ _ _ _ _ h => h)
    · intro ρ L W hC hr hI hL hLs hD
      obtain ⟨hrc, hrg, hrf, hrs⟩ := hr
      simp [go_sem] at hD
      have hL1 : L 1 = true := hLs { on := 1, ground := .data } (by simp) rfl
      have HI2 := Lib.hid (show ∀ e, CkI (w.heap.size + 1) v ids (updD L 2 true) e W from fun e => ⟨(fun h => hI.1 (by rwa [updD_ne (by decide)] at h)), (fun h => by rw [updD_self]), (fun _ => by rw [updD_ne (by decide)]; exact hL1)⟩)
      have HCC := Lib.hid hC
      clear hI hL hLs
      go_simp
      first | exact ⟨⟨HCC.out, trivial⟩, rfl, HI2.out _⟩ | exact ⟨⟨HCC.out, trivial⟩, HI2.out _⟩
    simp only [List.nil_append, List.cons_append]
    repeat (apply tameG_q rfl (CkI.other rfl rfl); (intro ρ W hC hr hD; (obtain ⟨hrc, hrg, hrf, hrs⟩ := hr); (simp [go_sem] at hD); go_simp; first | exact ⟨⟨hC, trivial⟩, rfl⟩ | exact rfl); simp only [List.nil_append, List.cons_append])
    apply tameG_w rfl (fun x _ => x = undef) (fun _ _ _ _ _ h => h)
    · intro ρ L W hC hr hI hL hLs hD
      obtain ⟨hrc, hrg, hrf, hrs⟩ := hr
      simp [go_sem] at hD
      have hL2 : L 2 = true := hLs { on := 2, ground := .guard } (by simp) rfl
      have HI2 := Lib.hid (show ∀ e, CkI (w.heap.size + 1) v ids (updD L 4 true) e W from fun e => ⟨(fun h => by rw [updD_self] at h; cases h), (fun _ => by rw [updD_ne (by decide)]; exact hL2), (fun h => by rw [updD_ne (by decide)]; rw [updD_ne (by decide)] at h; exact hI.2.2 h)⟩)
      clear hI hL hLs
      go_simp
      first | exact ⟨rfl, HI2.out _⟩ | exact HI2.out _
    simp only [List.nil_append, List.cons_append]
    repeat (apply tameG_q rfl (CkI.other rfl rfl); (intro ρ W hC hr hD; (obtain ⟨hrc, hrg, hrf, hrs⟩ := hr); (simp [go_sem] at hD); go_simp; first | exact ⟨⟨hC, trivial⟩, rfl⟩ | exact rfl); simp only [List.nil_append, List.cons_append])
    refine tameG_end_put rfl rfl (fun ρ W hC hr hF => ?_)
    simp [go_sem] at hF
    simp only [putF, hF, List.set_cons_succ, List.set_cons_zero]
    clear hF hr
    have HBE := Lib.hid (show Ext w W from Below.trans HE.out (hC.mono (Nat.le_succ _)))
    clear hC
    go_wp2
    go_ret
    exact ⟨by rw [HD.out, HND.out]; rfl, HBE.out⟩
  · have HND := Lib.hid hnd
    clear hnd
    go_wp2_with fail
    refine wp_region_tame_cutkG (fun W => Below (w.heap.size + 1) w1 W) (fun _ _ => True) (CkI (w.heap.size + 1) v ids) (by kernel_rfl) 17 rfl 11 (by decide +kernel) (by decide +kernel) rfl (Below.refl _ _).drew ⟨fun _ => HO.out.ext (Ext.refl _).drew, fun h => (by cases h), fun h => (by cases h)⟩ ?_
    simp only [List.take, List.drop]
    repeat (apply tameG_q rfl (CkI.other rfl rfl); (intro ρ W hC hr hD; (obtain ⟨hrc, hrg, hrf, hrs⟩ := hr); (simp [go_sem] at hD); go_simp; first | exact ⟨⟨hC, trivial⟩, rfl⟩ | exact rfl); simp only [List.nil_append, List.cons_append])
    apply tameG_w rfl (fun x _ => x = .bool true) (fun _ _ _ _ _ h => h)
    · intro ρ L W hC hr hI hL hLs hD
      obtain ⟨hrc, hrg, hrf, hrs⟩ := hr
      simp [go_sem] at hD
      have hL1 : L 1 = false := hL
      have h4 : L 4 = false := by
        cases h : L 4 with
        | false => rfl
        | true => have := hI.2.2 (hI.2.1 h); rw [hL1] at this; cases this
      have ho := hI.1 h4
      have HI := Lib.hid hI; have HOW := Lib.hid ho; have HCC := Lib.hid hC
      clear hI hL hLs ho
      go_simp
      refine (sorted_any ids v W (HOW.out.sl (fun _ => rfl))).mono ?_
      rintro e w' ⟨rfl, hE⟩
      rw [HND.out]
      exact ⟨_, rfl, ⟨HCC.out.trans (hE.mono (Nat.le_trans HZ.out HCC.out.size)), trivial⟩, rfl, ⟨fun _ => HOW.out.ext hE, (fun h => by rw [updD_ne (by decide), h4] at h; cases h), (fun _ => by rw [updD_self])⟩⟩
    simp only [List.nil_append, List.cons_append]
    apply tameG_w rfl (fun x _ => x = .bool true) (fun _ _ _ _ _ h => h)
    · intro ρ L W hC hr hI hL hLs hD
      obtain ⟨hrc, hrg, hrf, hrs⟩ := hr
      simp [go_sem] at hD
      have hL1 : L 1 = true := hLs { on := 1, ground := .data } (by simp) rfl
      have HI2 := Lib.hid (show ∀ e, CkI (w.heap.size + 1) v ids (updD L 2 true) e W from fun e => ⟨(fun h => hI.1 (by rwa [updD_ne (by decide)] at h)), (fun h => by rw [updD_self]), (fun _ => by rw [updD_ne (by decide)]; exact hL1)⟩)
      have HCC := Lib.hid hC
      clear hI hL hLs
      go_simp
      first | exact ⟨⟨HCC.out, trivial⟩, rfl, HI2.out _⟩ | exact ⟨⟨HCC.out, trivial⟩, HI2.out _⟩
    simp only [List.nil_append, List.cons_append]
    repeat (apply tameG_q rfl (CkI.other rfl rfl); (intro ρ W hC hr hD; (obtain ⟨hrc, hrg, hrf, hrs⟩ := hr); (simp [go_sem] at hD); go_simp; first | exact ⟨⟨hC, trivial⟩, rfl⟩ | exact rfl); simp only [List.nil_append, List.cons_append])
    apply tameG_w rfl (CmpV ids.length (noTwins ids)) (fun _ _ _ _ _ h => h)
    · intro ρ L W hC hr hI hL hLs hD
      obtain ⟨hrc, hrg, hrf, hrs⟩ := hr
      simp [go_sem] at hD
      have hL2 : L 2 = true := hLs { on := 2, ground := .guard } (by simp) rfl
      have HOW := Lib.hid (hI.1 hL)
      have HI2 := Lib.hid (show ∀ e W, CkI (w.heap.size + 1) v ids (updD L 4 true) e W from fun e W => ⟨(fun h => by rw [updD_self] at h; cases h), (fun _ => by rw [updD_ne (by decide)]; exact hL2), (fun h => by rw [updD_ne (by decide)]; rw [updD_ne (by decide)] at h; exact hI.2.2 h)⟩)
      have HCC := Lib.hid hC
      clear hI hL hLs
      go_simp
      refine (compact_any ids v (w.heap.size + 1) W (Nat.le_trans HZ.out HCC.out.size) HOW.out (by rw [HN.out]; exact HNL.out)).mono ?_
      rintro e w' ⟨⟨A', n', c', rfl, h1, h2⟩, hE⟩
      exact ⟨_, rfl, ⟨HCC.out.trans hE, trivial⟩, ⟨_, _, _, rfl, h1, h2⟩, HI2.out _ _⟩
    simp only [List.nil_append, List.cons_append]
    apply tameG_w rfl (CmpN ids.length (noTwins ids)) (fun _ _ _ _ _ h => h)
    · intro ρ L W hC hr hI hL hLs hD
      obtain ⟨hrc, hrg, hrf, hrs⟩ := hr
      simp [go_sem] at hD
      have HI2 := Lib.hid (show ∀ e u, CkI (w.heap.size + 1) v ids (updD L 5 true) (updD e 11 u) W from fun e u => CkI.other rfl rfl L e W u hI)
      have HCC := Lib.hid hC
      clear hI hL hLs
      obtain ⟨⟨A', n', c', h0, h1, h2⟩, h3⟩ := hD
      have H1 := Lib.hid h1; have H2 := Lib.hid h2
      clear h1 h2
      go_simp
      exact ⟨⟨HCC.out, trivial⟩, ⟨n', rfl, H1.out, H2.out⟩, HI2.out _ _⟩
    simp only [List.nil_append, List.cons_append]
    repeat (apply tameG_q rfl (CkI.other rfl rfl); (intro ρ W hC hr hD; (obtain ⟨hrc, hrg, hrf, hrs⟩ := hr); (simp [go_sem] at hD); go_simp; first | exact ⟨⟨hC, trivial⟩, rfl⟩ | exact rfl); simp only [List.nil_append, List.cons_append])
    apply tameG_w rfl (fun x _ => x = .bool (noTwins ids)) (fun _ _ _ _ _ h => h)
    · intro ρ L W hC hr hI hL hLs hD
      obtain ⟨hrc, hrg, hrf, hrs⟩ := hr
      simp [go_sem] at hD
      have HI2 := Lib.hid (show ∀ e u, CkI (w.heap.size + 1) v ids (updD L 9 true) (updD e 15 u) W from fun e u => CkI.other rfl rfl L e W u hI)
      have HCC := Lib.hid hC
      clear hI hL hLs
      obtain ⟨⟨n', h0, h1, h2⟩, h3, h4⟩ := hD
      have HQ := Lib.hid (show ((n' : Int) == (n : Int)) = noTwins ids by rw [← h2, HN.out, Bool.eq_iff_iff]; simp; omega)
      clear h1 h2
      go_simp
      rw [HQ.out]
      first | exact ⟨⟨HCC.out, trivial⟩, rfl, HI2.out _ _⟩ | exact ⟨⟨HCC.out, trivial⟩, HI2.out _ _⟩
    simp only [List.nil_append, List.cons_append]
    repeat (apply tameG_q rfl (CkI.other rfl rfl); (intro ρ W hC hr hD; (obtain ⟨hrc, hrg, hrf, hrs⟩ := hr); (simp [go_sem] at hD); go_simp; first | exact ⟨⟨hC, trivial⟩, rfl⟩ | exact rfl); simp only [List.nil_append, List.cons_append])
    refine tameG_end_put rfl rfl (fun ρ W hC hr hF => ?_)
    simp [go_sem] at hF
    simp only [putF, hF, List.set_cons_succ, List.set_cons_zero]
    clear hF hr
    have HBE := Lib.hid (show Ext w W from Below.trans HE.out (hC.mono (Nat.le_succ _)))
    clear hC
    go_wp2
    go_ret
    exact ⟨by rw [HD.out, HND.out]; rfl, HBE.out⟩

/-- The mill's table of checks, beside core's. -/
def TabM (w : World) : Prop := Tab w ∧ 0 < w.heap.size ∧ w.cell? ⟨0, 0, none⟩ = some (.func (.func 187) #[] #[]) ∧ w.cell? ⟨0, 1, none⟩ = some (.func (.func 188) #[] #[]) ∧ w.cell? ⟨0, 2, none⟩ = some (.func (.func 191) #[] #[]) ∧ w.cell? ⟨0, 3, none⟩ = some (.func (.func 194) #[] #[])
theorem TabM.ext {w w' : World} (h : TabM w) (e : Ext w w') : TabM w' := by
  obtain ⟨hT, h0, h1, h2, h3, h4⟩ := h
  exact ⟨hT.ext e, Nat.lt_of_lt_of_le h0 e.size, (e.cells.1 _ _ h0).trans h1, (e.cells.1 _ _ h0).trans h2, (e.cells.1 _ _ h0).trans h3, (e.cells.1 _ _ h0).trans h4⟩
theorem tabM_i0 (W : World) : Sem.run Tryz.prog (Instr.index 149 (.agg #[.func (.func 187) #[] #[], .func (.func 188) #[] #[], .func (.func 191) #[] #[], .func (.func 194) #[] #[]]) (.int .i64 0)) W = .ok (.agg #[.func (.func 187) #[] #[]]) W := by kernel_rfl
theorem tabM_i1 (W : World) : Sem.run Tryz.prog (Instr.index 149 (.agg #[.func (.func 187) #[] #[], .func (.func 188) #[] #[], .func (.func 191) #[] #[], .func (.func 194) #[] #[]]) (.int .i64 1)) W = .ok (.agg #[.func (.func 188) #[] #[]]) W := by kernel_rfl
theorem tabM_i2 (W : World) : Sem.run Tryz.prog (Instr.index 149 (.agg #[.func (.func 187) #[] #[], .func (.func 188) #[] #[], .func (.func 191) #[] #[], .func (.func 194) #[] #[]]) (.int .i64 2)) W = .ok (.agg #[.func (.func 191) #[] #[]]) W := by kernel_rfl
theorem tabM_i3 (W : World) : Sem.run Tryz.prog (Instr.index 149 (.agg #[.func (.func 187) #[] #[], .func (.func 188) #[] #[], .func (.func 191) #[] #[], .func (.func 194) #[] #[]]) (.int .i64 3)) W = .ok (.agg #[.func (.func 194) #[] #[]]) W := by kernel_rfl
set_option maxHeartbeats 1000000 in
theorem checkM_any (lots size : Int) (l : List Rc) (sv : Value) (w : World) (hT : TabM w) (hs : MlC w sv l) (hlen : l.length ≤ 1000) :
    Calls Tryz.prog 48 #[valM lots size sv] w fun e w' => e = .returned (.int .i64 (errB (checkM (mOf lots size l)) 90)) ∧ Ext w w' := by
  have i0 := tabM_i0
  have i1 := tabM_i1
  have i2 := tabM_i2
  have i3 := tabM_i3
  have HS := Lib.hid hs
  have HT := Lib.hid hT.1
  have HL := Lib.hid hlen
  obtain ⟨A, n, c, rfl, hn, hlc, hcm⟩ := hs.1.form
  obtain ⟨-, h0, t0, t1, t2, t3⟩ := hT
  generalize hM : mOf lots size l = M
  have HM := Lib.hid hM
  clear hs hlen hn hM
  go_enter Tryz.func48, Tryz.ntmps48
  go_wp2
  go_loopg [6] 4 (fun gg s wr => ∃ i : Int, s = .int .i64 i ∧ (i = 0 ∨ i = 1 ∨ i = 2 ∨ i = 3 ∨ i = 4) ∧ (4 - i).toNat ≤ gg ∧ Aside ((0 < i → ck0 M = true) ∧ (1 < i → ck1 M = true) ∧ (2 < i → ck2 M = true) ∧ (3 < i → ck3 M = true)) ∧
    Aside (Ext (w.alloc (.cells #[.int .i64 lots, .int .i64 size, .slice A n c] 24)) wr))
  case atStart => exact ⟨0, rfl, .inl rfl, by omega, ⟨by omega, by omega, by omega, by omega⟩, Ext.refl _⟩
  case round =>
    obtain ⟨i, rfl, hi, hg, CH, BW⟩ := hrel
    obtain ⟨hc, hf, hz, -⟩ := BW.out.use
    simp at hz
    have hz1 : w.heap.size < wr.heap.size := by omega
    have hE : Ext w wr := (Ext.al _ _).trans BW.out
    have HE := Lib.hid hE; clear hE
    have t0' := (HE.out.cells.1 _ 0 h0).trans t0
    rcases hi with rfl | rfl | rfl | rfl | rfl
    · go_wp2_with fail
      refine (f187_any lots size l _ _ (HS.out.1.ext (HE.out.trans (Ext.al _ _)))).mono ?_
      rintro e w' ⟨rfl, hb'⟩
      rw [HM.out]
      have E2 := Lib.hid ((BW.out.trans (Ext.al _ _)).trans hb'); clear hb'
      cases hq : ck0 M
      · have HQ := Lib.hid hq; clear hq
        go_wp2
        go_ret
        exact ⟨ret_int (by rw [show checkM M = false by unfold checkM; rw [HQ.out]; simp]; rfl), (Ext.al _ _).trans E2.out⟩
      · have HQ := Lib.hid hq; clear hq
        go_wp2
        go_roundg 3
        case measure => omega
        case rel => exact ⟨1, rfl, by omega, by omega, ⟨fun _ => HQ.out, by omega, by omega, by omega⟩, E2.out⟩
    · go_wp2_with fail
      refine (f188_any lots size l _ _ (HT.out.ext (HE.out.trans (Ext.al _ _))) (HS.out.ext (HE.out.trans (Ext.al _ _)))).mono ?_
      rintro e w' ⟨rfl, hb'⟩
      rw [HM.out]
      have E2 := Lib.hid ((BW.out.trans (Ext.al _ _)).trans hb'); clear hb'
      cases hq : ck1 M
      · have HQ := Lib.hid hq; clear hq
        go_wp2
        go_ret
        exact ⟨ret_int (by rw [show checkM M = false by unfold checkM; rw [HQ.out]; simp]; rfl), (Ext.al _ _).trans E2.out⟩
      · have HQ := Lib.hid hq; clear hq
        go_wp2
        go_roundg 2
        case measure => omega
        case rel => exact ⟨2, rfl, by omega, by omega, ⟨fun _ => CH.out.1 (by omega), fun _ => HQ.out, by omega, by omega⟩, E2.out⟩
    · go_wp2_with fail
      refine (f191_any lots size l _ _ (HS.out.1.ext (HE.out.trans (Ext.al _ _))) HL.out).mono ?_
      rintro e w' ⟨rfl, hb'⟩
      rw [HM.out]
      have E2 := Lib.hid ((BW.out.trans (Ext.al _ _)).trans hb'); clear hb'
      cases hq : ck2 M
      · have HQ := Lib.hid hq; clear hq
        go_wp2
        go_ret
        exact ⟨ret_int (by rw [show checkM M = false by unfold checkM; rw [HQ.out]; simp]; rfl), (Ext.al _ _).trans E2.out⟩
      · have HQ := Lib.hid hq; clear hq
        go_wp2
        go_roundg 1
        case measure => omega
        case rel => exact ⟨3, rfl, by omega, by omega, ⟨fun _ => CH.out.1 (by omega), fun _ => CH.out.2.1 (by omega), fun _ => HQ.out, by omega⟩, E2.out⟩
    · go_wp2_with fail
      refine (f194_any lots size l _ _ (HS.out.1.ext (HE.out.trans (Ext.al _ _)))).mono ?_
      rintro e w' ⟨rfl, hb'⟩
      rw [HM.out]
      have E2 := Lib.hid ((BW.out.trans (Ext.al _ _)).trans hb'); clear hb'
      cases hq : ck3 M
      · have HQ := Lib.hid hq; clear hq
        go_wp2
        go_ret
        exact ⟨ret_int (by rw [show checkM M = false by unfold checkM; rw [HQ.out]; simp]; rfl), (Ext.al _ _).trans E2.out⟩
      · have HQ := Lib.hid hq; clear hq
        go_wp2
        go_roundg 0
        case measure => omega
        case rel => exact ⟨4, rfl, by omega, by omega, ⟨fun _ => CH.out.1 (by omega), fun _ => CH.out.2.1 (by omega), fun _ => CH.out.2.2.1 (by omega), fun _ => HQ.out⟩, E2.out⟩
    · have HQ := Lib.hid (show checkM M = true by unfold checkM; rw [CH.out.1 (by omega), CH.out.2.1 (by omega), CH.out.2.2.1 (by omega), CH.out.2.2.2 (by omega)]; rfl)
      go_wp2
      go_ret
      exact ⟨ret_int (by rw [HQ.out]; rfl), HE.out⟩
end Go.Proofs.YtkpengeaolcjhaaGreatDoor
/- The reference's Mill, fits, Fit. -/
namespace Go.Proofs.YtkpengeaolcjhaaGreatDoor
open Go.RowKit Go.Shelf Go.Lib
set_option maxRecDepth 100000
set_option linter.unusedSimpArgs false

theorem withinM_any (n lo hi : Int) (w : World) : Calls Tryz.prog 92 #[.int .i64 n, .int .i64 lo, .int .i64 hi] w fun e w' => e = .returned (.bool (inB lo hi n)) ∧ w = w' := by
  go_enter Tryz.func92, Tryz.ntmps92
  go_wp2
  all_goals go_ret
  all_goals exact ⟨ret_bool (by unfold inB; first | (simp [*]; done) | (simp [*]; omega)), rfl⟩

theorem headR_of (lots size : Int) (l : List Rc) (n : Nat) (hn : n = l.length) : headR (mOf lots size l) = ((inB 1 3 lots && inB 2 4 size) && !decide (7 < (n : Int))) := by
  unfold headR; rw [hn]; simp
theorem cotsR_cons (last : Int) (x : Cot) (l : List Cot) : cotsR last (x :: l) = ((((valid x.b && !decide (x.b.id ≤ last)) && inB 1 60 x.len) && inB 1 200 x.str) && cotsR x.b.id l) := rfl
set_option maxHeartbeats 2000000 in
theorem refMill_any (lots size : Int) (l : List Rc) (sv : Value) (w : World) (hs : MlC w sv l) :
    Calls Tryz.prog 53 #[valM lots size sv] w fun e w' => e = .returned (.bool (millR (mOf lots size l))) ∧ Ext w w' := by
  have HS := Lib.hid hs
  obtain ⟨A, n, c, rfl, hn, hlc, hcm⟩ := hs.1.form
  have HR := Lib.hid (headR_of lots size l n hn.out)
  have HMM := Lib.hid (show millR (mOf lots size l) = (headR (mOf lots size l) && cotsR 0 (l.map (·.c))) from rfl)
  have HN := Lib.hid (show (l.map (·.c)).length = n by rw [List.length_map]; exact hn.out.symm)
  generalize hM : mOf lots size l = M
  rw [hM] at HR HMM
  clear hs hn hM
  go_enter Tryz.func53, Tryz.ntmps53
  go_wp2_with fail
  refine (withinM_any lots 1 3 _).mono ?_
  rintro e w' ⟨rfl, rfl⟩
  have HE := Lib.hid (Ext.al w (.cells #[.int .i64 lots, .int .i64 size, .slice A n c] 24))
  cases hA : inB 1 3 lots
  · have HA := Lib.hid hA; clear hA
    go_wp2
    go_ret
    exact ⟨ret_bool (by rw [HMM.out, HR.out, HA.out]; rfl), HE.out⟩
  have HA := Lib.hid hA; clear hA
  go_wp2_with fail
  refine (withinM_any size 2 4 _).mono ?_
  rintro e w' ⟨rfl, rfl⟩
  cases hB : inB 2 4 size
  · have HB := Lib.hid hB; clear hB
    go_wp2
    go_ret
    exact ⟨ret_bool (by rw [HMM.out, HR.out, HA.out, HB.out]; rfl), HE.out⟩
  have HB := Lib.hid hB; clear hB
  by_cases h7 : (7 : Int) < (n : Int)
  · have HQ := Lib.hid (show millR M = false by rw [HMM.out, HR.out, HA.out, HB.out, decide_eq_true h7]; rfl)
    go_wp2
    go_ret
    exact ⟨ret_bool (HQ.out.symm), HE.out⟩
  have HQ := Lib.hid (show millR M = cotsR 0 (l.map (·.c)) by rw [HMM.out, HR.out, HA.out, HB.out, decide_eq_false h7]; rfl)
  have hn7 : n ≤ 7 := by omega
  go_wp2
  go_loopg [3, 25] n (fun gg s3 s25 wr => ∃ (kk : Nat) (last : Int), kk ≤ n ∧ n - kk ≤ gg ∧ s3 = .int .i64 last ∧ s25 = .int .i64 (kk : Int) ∧ Aside (cotsR 0 (l.map (·.c)) = cotsR last ((l.map (·.c)).drop kk)) ∧ Aside (Ext w wr))
  case atStart => exact ⟨0, 0, by omega, by omega, rfl, by simp, by show _ = _; rw [List.drop_zero], HE.out⟩
  case round =>
    obtain ⟨kk, last, hkk, hgg, rfl, rfl, HC, HW⟩ := hrel
    by_cases hlt : kk < n
    · have hltz : (kk : Int) < (n : Int) := by omega
      obtain ⟨b, off, x, rfl, hx, hb, hcell⟩ := HS.out.1.at_ hlt
      obtain ⟨c0, c1, c2, c3, c4, c5, c6, c7⟩ := SlC.cells hcell HW.out
      have HX := Lib.hid (HS.out.2 x (List.mem_of_getElem? hx))
      have HD := Lib.hid (show (l.map (·.c)).drop kk = x.c :: (l.map (·.c)).drop (kk + 1) from drop_at (by rw [List.getElem?_map, hx]; rfl))
      have HWE := Lib.hid (HW.out.trans (Ext.al wr (.cells #[.int .i64 x.c.b.id, .int .i64 x.c.b.layers, .int .i64 x.c.b.dry.lo, .int .i64 x.c.b.dry.hi, .slice x.da x.dn x.dc, .slice x.wa x.wn x.wc, .int .i64 x.c.len, .int .i64 x.c.str] 63)))
      clear hcell hx
      go_wp2_with fail
      refine (refBale_v x.c.b _ _ _ (HX.out.1.ext HWE.out) (HX.out.2.ext HWE.out)).mono ?_
      rintro e w2 ⟨rfl, hE⟩
      have HB2 := Lib.hid ((Blk.new wr 63 #[.int .i64 x.c.b.id, .int .i64 x.c.b.layers, .int .i64 x.c.b.dry.lo, .int .i64 x.c.b.dry.hi, .slice x.da x.dn x.dc, .slice x.wa x.wn x.wc, .int .i64 x.c.len, .int .i64 x.c.str]).ext hE)
      have HE2 := Lib.hid (HWE.out.trans hE)
      have b0 := HB2.out.cell 0
      have b6 := HB2.out.cell 6
      have b7 := HB2.out.cell 7
      have bf := HB2.out.frozen
      have bl := HB2.out.lt
      simp at b0 b6 b7
      clear hE c0 c1 c2 c3 c4 c5 c6 c7
      cases hv : valid x.c.b
      · have HV := Lib.hid hv; clear hv
        go_wp2
        go_ret
        exact ⟨ret_bool (by rw [HQ.out, HC.out, HD.out, cotsR_cons, HV.out]; rfl), HE2.out⟩
      have HV := Lib.hid hv; clear hv
      by_cases hid : x.c.b.id ≤ last
      · have HI := Lib.hid (show decide (x.c.b.id ≤ last) = true from decide_eq_true hid)
        go_wp2
        go_ret
        exact ⟨ret_bool (by rw [HQ.out, HC.out, HD.out, cotsR_cons, HV.out, HI.out]; rfl), HE2.out⟩
      have HI := Lib.hid (show decide (x.c.b.id ≤ last) = false from decide_eq_false hid)
      go_wp2_with fail
      refine (withinM_any x.c.len 1 60 _).mono ?_
      rintro e w' ⟨rfl, rfl⟩
      cases h1 : inB 1 60 x.c.len
      · have H1 := Lib.hid h1; clear h1
        go_wp2
        go_ret
        exact ⟨ret_bool (by rw [HQ.out, HC.out, HD.out, cotsR_cons, HV.out, HI.out, H1.out]; rfl), HE2.out⟩
      have H1 := Lib.hid h1; clear h1
      go_wp2_with fail
      refine (withinM_any x.c.str 1 200 _).mono ?_
      rintro e w' ⟨rfl, rfl⟩
      cases h2 : inB 1 200 x.c.str
      · have H2 := Lib.hid h2; clear h2
        go_wp2
        go_ret
        exact ⟨ret_bool (by rw [HQ.out, HC.out, HD.out, cotsR_cons, HV.out, HI.out, H1.out, H2.out]; rfl), HE2.out⟩
      have H2 := Lib.hid h2; clear h2
      have HC2 := Lib.hid (show cotsR 0 (l.map (·.c)) = cotsR x.c.b.id ((l.map (·.c)).drop (kk + 1)) by rw [HC.out, HD.out, cotsR_cons, HV.out, HI.out, H1.out, H2.out]; rfl)
      go_wp2
      go_roundg (n - (kk + 1))
      case measure => omega
      case rel => exact ⟨kk + 1, x.c.b.id, by omega, by omega, rfl, by simp, HC2.out, HE2.out⟩
    · have HD := Lib.hid (show (l.map (·.c)).drop kk = [] from List.drop_of_length_le (by have := HN.out; omega))
      go_wp2
      go_ret
      exact ⟨ret_bool (by rw [HQ.out, HC.out, HD.out]; rfl), HW.out⟩

theorem info4x : (Tryz.prog.info? 4).map (fun i => (i.zero, i.size, i.bytes)) = some (some (.bool false), 1, 1) := by kernel_rfl
abbrev encBo (b : Bool) : List Value := [.bool b]
abbrev SlBo (w : World) (v : Value) (l : List Bool) : Prop := Sl encBo 1 w v l
theorem encBo_one (x : Bool) : ∀ u ∈ encBo x, u.oneCell' = true := by
  intro u hu
  simp at hu
  subst hu
  rfl
theorem SlBo.cell {w W : World} {b off k : Nat} {x : Bool} (h : ∀ W, Ext w W → ∀ j u, (encBo x)[j]? = some u → W.cell? ⟨b, off + k * 1 + j, none⟩ = some u) (hW : Ext w W) : W.cell? ⟨b, off + k, none⟩ = some (.bool x) := by
  simpa using h W hW 0 _ rfl
def fitIds (l : List Cot) : List Int := (l.filter fitB).map (·.b.id)
def fitR (m : Mll) : List Int := if checkM m then fitIds m.cots else []
theorem fitR_no {m : Mll} (h : checkM m = false) : fitR m = [] := by unfold fitR; rw [h]; rfl
theorem fitR_yes {m : Mll} (h : checkM m = true) : fitR m = fitIds m.cots := by unfold fitR; rw [h]; rfl
theorem idsL_cons (x : Cot) (l : List Cot) : fitIds (l ++ [x]) = fitIds l ++ (if fitB x then [x.b.id] else []) := by
  unfold fitIds
  rw [List.filter_append, List.map_append]
  congr 1
  by_cases h : fitB x = true
  · simp [h]
  · simp [h]
end Go.Proofs.YtkpengeaolcjhaaGreatDoor
/- The reference's of: how uneven a plan is. -/
namespace Go.Proofs.YtkpengeaolcjhaaGreatDoor
open Go.RowKit Go.Shelf Go.Lib
set_option maxRecDepth 100000
set_option linter.unusedSimpArgs false

abbrev set2 (W : World) (g : Nat) (y0 y1 : Value) : World := (W.setCell ⟨g, 0, none⟩ y0).setCell ⟨g, 1, none⟩ y1
theorem Blk.set2 {W : World} {g : Nat} {t : TypeId} {x0 x1 : Value} (h : Blk W g t #[x0, x1]) (y0 y1 : Value) : Blk (set2 W g y0 y1) g t #[y0, y1] := by
  have := (h.set_ 0 y0).set_ 1 y1
  simpa using this
abbrev valU (u : Int × Int) : Value := .agg #[.int .i64 u.1, .int .i64 u.2]
theorem lotL_snoc {p v : List Int} (h : p.length = v.length) (a x lot : Int) : lotL (p ++ [a]) (v ++ [x]) lot = lotL p v lot ++ (if a = lot then [x] else []) := by
  unfold lotL
  rw [List.zip_append h, List.filter_append, List.map_append]
  congr 1
  by_cases e : a = lot
  · subst e; simp
  · simp [e]
end Go.Proofs.YtkpengeaolcjhaaGreatDoor
/- The reference's SameInts, Great, SameCotton, Same, TwinCotton, Twin. -/
namespace Go.Proofs.YtkpengeaolcjhaaGreatDoor
open Go.RowKit Go.Shelf Go.Lib
set_option maxRecDepth 100000
set_option linter.unusedSimpArgs false

theorem sameIntsM_any (l : List Int) (v v' : Value) (w : World) (h : SlI w v l) (h' : SlI w v' l) :
    Calls Tryz.prog 20 #[v, v'] w fun e w' => e = .returned (.bool true) ∧ Ext w w' := by
  have HA := Lib.hid h
  have HB := Lib.hid h'
  obtain ⟨A, n, cp, rfl, hn, hlc, hcm⟩ := h.form
  obtain ⟨A2, n2, cp2, rfl, hn2, hlc2, hcm2⟩ := h'.form
  have hnn : n2 = n := by have := hn.out; have := hn2.out; omega
  subst hnn
  clear h h'
  go_enter Tryz.func20, Tryz.ntmps20
  go_wp2
  go_loopg [5] n2 (fun gg s wr => ∃ (k : Nat), k ≤ n2 ∧ n2 - k ≤ gg ∧ s = .int .i64 k ∧ Aside (Ext w wr))
  case atStart => exact ⟨0, by omega, by omega, rfl, Ext.refl _⟩
  case round =>
    obtain ⟨k, hk, hg, rfl, EW⟩ := hrel
    by_cases hlt : k < n2
    · have hjz : (k : Int) < (n2 : Int) := by omega
      obtain ⟨bb, off, x, rfl, hx, hb, hcell⟩ := HA.out.at_ hlt
      obtain ⟨bb', off', x', rfl, hx', hb', hcell'⟩ := HB.out.at_ hlt
      have hxx : x' = x := by rw [hx] at hx'; injection hx' with h; exact h.symm
      subst hxx
      have c0 := fun W (h : Ext wr W) => SlI.cell hcell (EW.out.trans h)
      have c1 := fun W (h : Ext wr W) => SlI.cell hcell' (EW.out.trans h)
      clear hx hx' hcell hcell'
      go_wp2
      refine wp_region_tame (fun W => Ext wr W) (fun W W' => Ext W W') (by kernel_rfl) 26 rfl (by decide +kernel) (Ext.refl _).drew ?_
      repeat (apply tame_q rfl; (intro ρ W hC hr hD; (obtain ⟨hrc, hrg, hrf, hrs⟩ := hr); (simp [go_sem] at hD); go_simp; first | exact ⟨⟨hC, Ext.refl _⟩, rfl⟩ | exact ⟨⟨hC, RS.refl _⟩, rfl⟩ | exact rfl); simp only [List.nil_append, List.cons_append])
      refine tame_end 26 rfl rfl (fun ρ W hC hr hF => ?_)
      obtain ⟨hrc, hrg, hrf, hrs⟩ := hr
      simp [go_sem] at hF
      apply frame_to
      · go_simp
        exact rfl
      clear hF hrs hrc hrg hrf
      have HC := Lib.hid hC; clear hC
      go_wp2
      go_roundg (n2 - (k + 1))
      case measure => omega
      case rel => exact ⟨k + 1, by omega, by omega, rfl, EW.out.trans HC.out⟩
    · go_wp2
      go_ret
      exact ⟨rfl, EW.out⟩

def greatM (l : List Rc) : Bool := decide (14 < (l.length : Int)) || l.any fun r => greatB r.c.b
set_option maxHeartbeats 1000000 in
theorem greatM_any (lots size : Int) (l : List Rc) (sv : Value) (w : World) (hs : MlC w sv l) :
    Calls Tryz.prog 12 #[valM lots size sv] w fun e w' => e = .returned (.bool (greatM l)) ∧ Ext w w' := by
  have HS := Lib.hid hs
  obtain ⟨A, n, c, rfl, hn, hlc, hcm⟩ := hs.1.form
  have HL := Lib.hid (show l.length = n from hn.out.symm)
  clear hs hn
  go_enter Tryz.func12, Tryz.ntmps12
  by_cases h14 : (14 : Int) < (n : Int)
  · have HQ := Lib.hid (show greatM l = true by unfold greatM; rw [HL.out, decide_eq_true h14]; rfl)
    go_wp2
    go_ret
    exact ⟨by rw [HQ.out]; rfl, Ext.al _ _⟩
  have HG := Lib.hid (show greatM l = l.any fun r => greatB r.c.b by unfold greatM; rw [HL.out, decide_eq_false h14]; rfl)
  go_wp2
  go_loopg [12] n (fun gg s12 wr => ∃ kk : Nat, kk ≤ n ∧ n - kk ≤ gg ∧ s12 = .int .i64 (kk : Int) ∧ Aside ((l.any fun r => greatB r.c.b) = (l.drop kk).any fun r => greatB r.c.b) ∧ Aside (Ext w wr))
  case atStart => exact ⟨0, by omega, by omega, by simp, by show _ = _; rw [List.drop_zero], Ext.al _ _⟩
  case round =>
    obtain ⟨kk, hkk, hgg, rfl, HA, HW⟩ := hrel
    by_cases hlt : kk < n
    · have hltz : (kk : Int) < (n : Int) := by omega
      obtain ⟨b, off, x, rfl, hx, hb, hcell⟩ := HS.out.1.at_ hlt
      obtain ⟨c0, c1, c2, c3, c4, c5, c6, c7⟩ := SlC.cells hcell HW.out
      have HX := Lib.hid (HS.out.2 x (List.mem_of_getElem? hx))
      have HD := Lib.hid (show ((l.drop kk).any fun r => greatB r.c.b) = (greatB x.c.b || (l.drop (kk + 1)).any fun r => greatB r.c.b) by rw [drop_at hx]; rfl)
      have HWE := Lib.hid (HW.out.trans (Ext.al wr (.cells #[.int .i64 x.c.b.id, .int .i64 x.c.b.layers, .int .i64 x.c.b.dry.lo, .int .i64 x.c.b.dry.hi, .slice x.da x.dn x.dc, .slice x.wa x.wn x.wc, .int .i64 x.c.len, .int .i64 x.c.str] 63)))
      clear hcell hx
      go_wp2_with fail
      refine (great_any x.c.b _ _ _ (HX.out.1.ext HWE.out) (HX.out.2.ext HWE.out)).mono ?_
      rintro e w2 ⟨rfl, hE⟩
      have HE2 := Lib.hid (HWE.out.trans hE)
      clear hE c0 c1 c2 c3 c4 c5 c6 c7
      cases hq : greatB x.c.b
      · have HQ := Lib.hid (show (l.any fun r => greatB r.c.b) = (l.drop (kk + 1)).any fun r => greatB r.c.b by rw [HA.out, HD.out, hq]; rfl)
        clear hq
        go_wp2
        go_roundg (n - (kk + 1))
        case measure => omega
        case rel => exact ⟨kk + 1, by omega, by omega, by simp, HQ.out, HE2.out⟩
      · have HQ := Lib.hid (show (l.any fun r => greatB r.c.b) = true by rw [HA.out, HD.out, hq]; rfl)
        clear hq
        go_wp2
        go_ret
        exact ⟨by rw [HG.out, HQ.out]; rfl, HE2.out⟩
    · have HQ := Lib.hid (show (l.any fun r => greatB r.c.b) = false by rw [HA.out, List.drop_of_length_le (by have := HL.out; omega)]; rfl)
      go_wp2
      go_ret
      exact ⟨by rw [HG.out, HQ.out]; rfl, HW.out⟩

end Go.Proofs.YtkpengeaolcjhaaGreatDoor
