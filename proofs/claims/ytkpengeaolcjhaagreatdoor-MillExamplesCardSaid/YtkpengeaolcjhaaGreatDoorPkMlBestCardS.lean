/- mill.plans: the recursion. -/
import Derived.Test.YtkpengeaolcjhaaGreatDoorPkMlBestCardR
import Derived.Test.YtkpengeaolcjhaaGreatDoorPkMlBestCardQ
namespace Go.Proofs.YtkpengeaolcjhaaGreatDoor
open Go.RowKit Go.Shelf Go.Lib
set_option maxRecDepth 100000
set_option linter.unusedSimpArgs false

theorem okLotH_zero (size : Int) (b : Bool) (f : List Int) : okLot size b f 0 = true := rfl
theorem okLotH_no (size : Int) (f : List Int) (k : Nat) : okLot size false f (k + 1) = false := by unfold okLot; simp
theorem okLotH_yes (size : Int) (f0 f1 f2 : Int) (k : Nat) : okLot size true [f0, f1, f2] (k + 1) = !decide (([f0, f1, f2] : List Int)[k]?.getD 0 = size) := by unfold okLot; simp
theorem OneB.extM {y : Int} {v : Value} {W W' : World} (h : OneB y v W) (e : Ext W W') : OneB y v W' := by
  obtain ⟨b, h1, h2⟩ := h
  exact ⟨b, h1, h2.ext e⟩
theorem Sl.capM {α : Type} {enc : α → List Value} {sz : Nat} {w : World} {A : Option Addr} {n c c' : Nat} {l : List α} (h : Sl enc sz w (.slice A n c) l) (h1 : n ≤ c') (h2 : c' ≤ maxLen) : Sl enc sz w (.slice A n c') l := by
  obtain ⟨A', c0, hv, hl, hc, hx⟩ := h
  injection hv with e1 e2 e3
  subst e1 e2 e3
  exact ⟨_, c', rfl, h1, h2, hx⟩
/-- What a call of put does. -/
def PutC (fid : FuncId) (lid bt bfu by' bp lt n₀ x₀ : Nat) (size : Int) (A : Option Addr) (n c m nn : Nat) (F0 F1 F2 : Int) (X : Nat → Prop) (J Jx : List (List Int) → World → Prop) (tot : List (List Int)) (l : List Rc) (rest : List Bool) : Prop :=
  ∀ (g : List Int) (f0 f1 f2 : Int) (B : Option Addr) (np cp : Nat) (pre : List (List Int)) (W₀ : World), g.length + rest.length = l.length → (l.map (fun r => fitB r.c)).drop g.length = rest → Cnt lt size f0 f1 f2 → SlI W₀ (.slice B np cp) g → (∀ b o, B = some ⟨b, o, none⟩ → 0 < g.length → x₀ ≤ b ∧ ¬ X b) →
    PMl fid lid bt bfu by' bp lt size A n c m F0 F1 F2 W₀ → MapB W₀ m nn (fitTo l l.length) → J pre W₀ → n₀ ≤ W₀.heap.size → x₀ ≤ W₀.heap.size → pre ++ tl lt size g rest [f0, f1, f2] <+: tot →
    Calls Tryz.prog 140 #[.slice B np cp, valF f0 f1 f2, .pointer (some ⟨bt, 0, none⟩), .pointer (some ⟨bfu, 0, none⟩), .pointer (some ⟨by', 0, none⟩), .pointer (some ⟨bp, 0, none⟩)] W₀ fun e W' =>
      (e = .returned (.bool true) ∧ J (pre ++ tl lt size g rest [f0, f1, f2]) W' ∧ Keep n₀ X W₀ W') ∨ (e = .returned (.bool false) ∧ ∃ q, q <+: tl lt size g rest [f0, f1, f2] ∧ Jx (pre ++ q) W')
set_option maxHeartbeats 40000000 in
theorem put_cons {fid : FuncId} {lid bt bfu by' bp lt n₀ x₀ : Nat} {size : Int} {A : Option Addr} {n c m nn : Nat} {F0 F1 F2 : Int} {X : Nat → Prop} {J Jx : List (List Int) → World → Prop} {tot : List (List Int)} {l : List Rc} {y : Bool} {r : List Bool}
    (hfid : fid = 140) (hl1 : 1 ≤ lt) (hl3 : lt ≤ 3) (hs4 : size ≤ 4) (hn : n = l.length) (hn7 : l.length ≤ 7) (hX : ∀ b, X b → b < x₀) (x1 : ¬ X bt) (x2 : ¬ X bfu) (x3 : ¬ X by') (x4 : ¬ X bp) (hmn : m < n₀)
    (hJ0 : ∀ pre A B, J pre A → Ext A B → J pre B) (ih : PutC fid lid bt bfu by' bp lt n₀ x₀ size A n c m nn F0 F1 F2 X J Jx tot l r) : PutC fid lid bt bfu by' bp lt n₀ x₀ size A n c m nn F0 F1 F2 X J Jx tot l (y :: r) := by
  intro g f0 f1 f2 B np cp pre W₀ hlen hfit hcnt hs hB hM hmp hJ hn0 hx0 hp
  have hnp : np = g.length := by obtain ⟨A', c', e, -⟩ := hs; injection e
  have hlen' : g.length + (r.length + 1) = l.length := by simpa using hlen
  have hnpc : np ≤ cp := by obtain ⟨A', c', e, h, -⟩ := hs; injection e with _ _ e3; omega
  have hnpn : np < n := by omega
  have hnpz : ((np : Int) == (n : Int)) = false := by simp; omega
  have hnp7 : np ≤ 7 := by omega
  have HIN := Lib.hid (show In64 (np : Int) by unfold In64; omega)
  have HFY := Lib.hid (show fitTo l l.length (np : Int) = y by
    obtain ⟨rr, hrr⟩ : ∃ rr, l[np]? = some rr := ⟨_, List.getElem?_eq_getElem (by omega)⟩
    rw [fitTo_at hrr]
    have h1 : ((l.map (fun r => fitB r.c)).drop g.length)[0]? = some y := by rw [hfit]; rfl
    rw [List.getElem?_drop, Nat.add_zero, ← hnp, List.getElem?_map, hrr] at h1
    simpa using h1)
  have HFR := Lib.hid (show (l.map (fun r => fitB r.c)).drop (np + 1) = r by
    rw [hnp, ← List.drop_drop, hfit]; rfl)
  generalize hT : tl lt size g (y :: r) [f0, f1, f2] = T at hp ⊢
  have HT := Lib.hid (show T = tlk lt size g y r [f0, f1, f2] (lt + 1) by rw [← hT, tl_cons])
  have HTS := Lib.hid (tlk_succ lt size g y r [f0, f1, f2])
  have HTP := Lib.hid (fun k (hk : k ≤ lt + 1) => tlk_pre lt size g y r [f0, f1, f2] hk)
  have HS := Lib.hid hs; have HM := Lib.hid hM; have HMP0 := Lib.hid hmp; have HJ := Lib.hid hJ; have HP := Lib.hid hp; have IH := Lib.hid ih; have HB := Lib.hid hB; have HCN := Lib.hid hcnt
  have HJ0 := Lib.hid hJ0; have HX := Lib.hid hX; have HX0 := Lib.hid hx0; have HN0 := Lib.hid hn0; have HMN := Lib.hid hmn
  have HGL := Lib.hid hnp
  have HLE := Lib.hid (show np + 1 + r.length = l.length by omega)
  have eg : ∀ args w, (callFunc fid args).run Tryz.prog w = .ok (.enter fid args) w := by rw [hfid]; exact enters_of Tryz.func140 (by kernel_rfl) rfl
  have HFI := Lib.hid hfid
  have HE1 := Lib.hid (Ext.al W₀ (.cells #[.int .i64 f0, .int .i64 f1, .int .i64 f2] 176))
  obtain ⟨t0, t1, t2, t3, uu0, uu1, uu2, yy, fc⟩ := id hM
  have hb1 := (is_cells t0).1
  have hw9 : IntKind.i64.wrap ((lt : Int) + 1) = (lt : Int) + 1 := by rw [IntKind.wrap_i64]; omega
  have HNL := Lib.hid hn
  clear hs hM hmp hJ hp ih hB hcnt hJ0 hX hx0 hmn hfit hlen hlen' hnp hT hfid hn
  go_enter Tryz.func140, Tryz.ntmps140
  go_wp2
  go_step3
  go_wp2
  go_step3
  go_wp2
  obtain ⟨w5, hw5⟩ : ∃ w5, w5 = W₀.alloc (.cells #[.int .i64 f0, .int .i64 f1, .int .i64 f2] 176) := ⟨_, rfl⟩
  rw [← hw5]
  have B1 := Lib.hid (show Blk w5 W₀.heap.size 176 #[.int .i64 f0, .int .i64 f1, .int .i64 f2] from hw5 ▸ Blk.new _ _ _)
  have E5 := Lib.hid (show Ext W₀ w5 from hw5 ▸ Ext.al _ _)
  have HZ5 := Lib.hid (show W₀.heap.size < w5.heap.size by rw [hw5]; simp)
  clear hw5 HE1 t0 t1 t2 t3 uu0 uu1 uu2 yy fc hb1
  go_loopg [30] (lt + 1) (fun gg s30 wr => ∃ k : Nat, s30 = .int .i64 (k : Int) ∧ k ≤ lt + 1 ∧ lt + 1 - k ≤ gg ∧ Aside (J (pre ++ tlk lt size g y r [f0, f1, f2] k) wr) ∧ Aside (Keep n₀ X w5 wr))
  case atStart => exact ⟨0, by simp, by omega, by omega, by show J _ _; rw [show tlk lt size g y r [f0, f1, f2] 0 = [] from rfl, List.append_nil]; exact HJ0.out _ _ _ HJ.out E5.out, Keep.refl _⟩
  case round =>
    obtain ⟨k, rfl, hk, hgg, HJQ, HKQ⟩ := hrel
    have HMQ := Lib.hid ((HM.out.ext E5.out).keep HKQ.out x1 x2 x3 x4)
    have HB1 := Lib.hid (B1.out.keep HKQ.out (fun h => by have := HX.out _ h; have := HX0.out; omega))
    have HMP := Lib.hid ((HMP0.out.ext E5.out).at_ (HKQ.out.b.block m HMN.out))
    have HSQ := Lib.hid ((HS.out.ext E5.out).keepG HKQ.out (fun h0 b o e => (HB.out b o e h0).2))
    have hz5 := HKQ.out.b.size
    have HZR := Lib.hid (show n₀ ≤ wr.heap.size ∧ x₀ ≤ wr.heap.size by have := HZ5.out; have := HN0.out; have := HX0.out; omega)
    by_cases hkl : k ≤ lt
    · have hkz : (k : Int) < (lt : Int) + 1 := by omega
      obtain ⟨p0, p1, p2, pf, pl⟩ := HB1.out.c3
      have hk3 : k = 0 ∨ k = 1 ∨ k = 2 ∨ k = 3 := by omega
      rcases hk3 with rfl | rfl | rfl | rfl
      · have HOK := Lib.hid (okLotH_zero size y [f0, f1, f2])
        go_wp2_with fail
        obtain ⟨w9, hw9'⟩ : ∃ w9, w9 = wr.alloc (.cells #[.int .i64 f0, .int .i64 f1, .int .i64 f2] 176) := ⟨_, rfl⟩
        rw [← hw9']
        have E9 := Lib.hid (show Ext wr w9 from hw9' ▸ Ext.al _ _)
        have HB9 := Lib.hid (show Blk w9 wr.heap.size 176 #[.int .i64 f0, .int .i64 f1, .int .i64 f2] from hw9' ▸ Blk.new _ _ _)
        clear hw9' p0 p1 p2 pf pl
        have w0 := fun V (h : Ext w9 V) => (HMQ.out.ext (E9.out.trans h)).f
        have u0 := fun V (h : Ext w9 V) => (HB9.out.ext h).c3.1
        have u1 := fun V (h : Ext w9 V) => (HB9.out.ext h).c3.2.1
        have u2 := fun V (h : Ext w9 V) => (HB9.out.ext h).c3.2.2.1
        refine wp_region_tame_cut2 (fun V => Ext w9 V) (fun V V' => Ext V V') (by kernel_rfl) 72 rfl _ _ rfl rfl (by decide +kernel) (by decide +kernel) (by decide +kernel) (by decide +kernel) (by decide +kernel) rfl rfl (Ext.refl _).drew ?_
        simp only [List.dropLast]
        repeat (apply tame_q rfl; (intro ρ W hC hr hD; (obtain ⟨hrc, hrg, hrf, hrs⟩ := hr); (simp [go_sem] at hD); go_simp; first | exact ⟨⟨hC, Ext.refl _⟩, rfl⟩ | exact ⟨⟨hC, RS.refl _⟩, rfl⟩ | exact rfl); simp only [List.nil_append, List.cons_append])
        apply tame_v rfl (OneB (0 : Int)) (fun v V V' _ hE h => h.extM hE)
        · intro ρ V hC hr hD
          obtain ⟨hrc, hrg, hrf, hrs⟩ := hr
          simp [go_sem] at hD
          go_simp
          exact ⟨⟨hC.alloc _, Ext.al _ _⟩, ⟨_, rfl, Blk.new _ _ _⟩⟩
        simp only [List.nil_append, List.cons_append]
        apply tame_v rfl (fun v V => Own encI 3 1 V w9.heap.size v (g ++ [(0 : Int)])) (fun v V V' _ hE h => h.ext hE)
        · intro ρ V hC hr hD
          obtain ⟨hrc, hrg, hrf, hrs⟩ := hr
          simp [go_sem] at hD
          have d1 : ρ (.tmp 64) = .slice B np np := hD.1
          have d2 : OneB (0 : Int) (ρ (.tmp 66)) V := hD.2
          obtain ⟨bb, d3, d4⟩ := d2
          obtain ⟨v', V', hrun, ho, hE⟩ := run_appFull (y := (0 : Int)) (((HSQ.out.ext E9.out).ext hC).capM (Nat.le_refl _) (by unfold maxLen; omega)) d4 36 (by have := HGL.out; omega)
          show opGives _ _ _ _ _ _ _
          unfold opGives execOp
          simp only [resolve, invoke, builtin, Sem.run_bind, Sem.run_pure, Result.andThen_ok, List.map_toArray, List.map_cons, List.map_nil, d1, d3, hrun]
          exact ⟨⟨hC.trans hE, hE⟩, ho.mono hC.size⟩
        simp only [List.nil_append, List.cons_append]
        repeat (apply tame_q rfl; (intro ρ W hC hr hD; (obtain ⟨hrc, hrg, hrf, hrs⟩ := hr); (simp [go_sem] at hD); go_simp; first | exact ⟨⟨hC, Ext.refl _⟩, rfl⟩ | exact ⟨⟨hC, RS.refl _⟩, rfl⟩ | exact rfl); simp only [List.nil_append, List.cons_append])
        refine tame_end 72 rfl rfl (fun ρ V hC hr hF => ?_)
        obtain ⟨hrc, hrg, hrf, hrs⟩ := hr
        have h67 : Own encI 3 1 V w9.heap.size (ρ (.tmp 67)) (g ++ [(0 : Int)]) := hF.2.2.2.2.2.2.2.2.2.1
        simp [go_sem] at hF
        have hsl : SlI V (ρ (.tmp 67)) (g ++ [(0 : Int)]) := h67.sl (fun _ => rfl)
        have hnew : ∀ A7 n7 c7, ρ (.tmp 67) = .slice A7 n7 c7 → ∀ b o, A7 = some ⟨b, o, none⟩ → w9.heap.size ≤ b := by
          intro A7 n7 c7 e b o e2
          rcases own_formG h67 with ⟨h1, h2⟩ | ⟨g', cap, cur, h1, h3, -⟩
          · simp at h2
          · rw [e] at h1; injection h1 with h1; rw [e2] at h1; injection h1 with h1; injection h1 with h1; omega
        obtain ⟨A7, n7, c7, e67, -, -, -⟩ := hsl.form
        rw [e67] at hsl
        have HSL := Lib.hid hsl
        have HNW := Lib.hid (hnew A7 n7 c7 e67)
        have HC9 := Lib.hid (E9.out.trans hC)
        have hsv := hC.size
        have hs9 := E9.out.size
        apply frame_to
        · go_simp
          exact rfl
        clear hF e67 h67 hsl hnew hC hrs hrc hrg hrf w0 u0 u1 u2
        have hpp : (pre ++ tlk lt size g y r [f0, f1, f2] 0) ++ tl lt size (g ++ [(0 : Int)]) r [f0, f1, f2] = pre ++ tlk lt size g y r [f0, f1, f2] (0 + 1) := by
          rw [HTS.out 0, HOK.out, List.append_assoc]; rfl
        have HPP := Lib.hid hpp
        have H := IH.out (g ++ [(0 : Int)]) (f0) (f1) (f2) A7 n7 c7 (pre ++ tlk lt size g y r [f0, f1, f2] 0) V (by rw [List.length_append]; simp; have := HGL.out; have := HLE.out; omega) (by rw [List.length_append, ← HGL.out]; exact HFR.out) HCN.out HSL.out (fun b o e _ => by
            have h1 := HNW.out b o e
            have h2 := HZR.out.2
            exact ⟨by omega, fun hx => by have := HX.out b hx; omega⟩) (HMQ.out.ext HC9.out) (HMP.out.ext HC9.out) (HJ0.out _ _ _ HJQ.out HC9.out) (by have := HZR.out.1; omega) (by have := HZR.out.2; omega) (by
            rw [hpp]
            refine List.IsPrefix.trans ?_ HP.out
            rw [HT.out]
            exact (List.prefix_append_right_inj _).2 (HTP.out (0 + 1) (by omega)))
        rw [← HFI.out] at H
        have HH := Lib.hid H
        have HKW := Lib.hid (HKQ.out.trans (Keep.ext (X := X) HC9.out HZR.out.1))
        clear hpp H hsv hs9
        go_wp2_with (go_at_fn fid; refine HH.out.mono ?_; rintro e w' (⟨rfl, k1, k2⟩ | ⟨rfl, q', k1, k2⟩))
        · have K1 := Lib.hid k1; have K2 := Lib.hid k2
          clear k1 k2
          go_wp2
          go_roundg (lt + 1 - (0 + 1))
          case measure => omega
          case rel => exact ⟨0 + 1, by simp, by omega, by omega, by show J _ _; rw [← HPP.out]; exact K1.out, HKW.out.trans K2.out⟩
        · have K1 := Lib.hid k1; have K2 := Lib.hid k2
          clear k1 k2
          go_wp2
          try rw [Exit.noGoto_ret]
          go_ret
          refine .inr ⟨rfl, tlk lt size g y r [f0, f1, f2] 0 ++ q', ?_, by rw [← List.append_assoc]; exact K2.out⟩
          rw [HT.out]
          refine List.IsPrefix.trans ?_ (HTP.out (0 + 1) (by omega))
          rw [HTS.out 0, HOK.out]
          exact (List.prefix_append_right_inj _).2 K1.out
      · cases y
        · have HNX := Lib.hid (show pre ++ tlk lt size g false r [f0, f1, f2] (1 + 1) = pre ++ tlk lt size g false r [f0, f1, f2] 1 by rw [HTS.out 1, okLotH_no]; simp)
          go_wp2_with fail
          obtain ⟨w6, hw6⟩ : ∃ w6, w6 = wr.alloc (.cells #[.int .i64 f0, .int .i64 f1, .int .i64 f2] 176) := ⟨_, rfl⟩
          rw [← hw6]
          have E6 := Lib.hid (show Ext wr w6 from hw6 ▸ Ext.al _ _)
          have HB6 := Lib.hid (show Blk w6 wr.heap.size 176 #[.int .i64 f0, .int .i64 f1, .int .i64 f2] from hw6 ▸ Blk.new _ _ _)
          clear hw6
          have v0 := fun V (h : Ext w6 V) => (HMQ.out.ext (E6.out.trans h)).t1
          have v1 := fun V (h : Ext w6 V) => (HMQ.out.ext (E6.out.trans h)).t3
          have v2 := fun V (h : Ext w6 V) => ((HB1.out.ext E6.out).ext h).c3.1
          have v3 := fun V (h : Ext w6 V) => ((HB1.out.ext E6.out).ext h).c3.2.1
          have v4 := fun V (h : Ext w6 V) => ((HB1.out.ext E6.out).ext h).c3.2.2.1
          have lk := fun V (h : Ext w6 V) => (show (Instr.lookup 93 (.map (some m)) (.int .i64 (np : Int)) false).run Tryz.prog V = .ok (.bool false) V by have := ((HMP.out.ext E6.out).ext h).look HIN.out; rwa [HFY.out] at this)
          refine wp_region_tame (fun W => Ext w6 W) (fun W W' => Ext W W') (by kernel_rfl) 72 rfl (by decide +kernel) (Ext.refl _).drew ?_
          repeat (apply tame_q rfl; (intro ρ W hC hr hD; (obtain ⟨hrc, hrg, hrf, hrs⟩ := hr); (simp [go_sem] at hD); go_simp; first | exact ⟨⟨hC, Ext.refl _⟩, rfl⟩ | exact ⟨⟨hC, RS.refl _⟩, rfl⟩ | exact rfl); simp only [List.nil_append, List.cons_append])
          refine tame_end 72 rfl rfl (fun ρ W hC hr hF => ?_)
          obtain ⟨hrc, hrg, hrf, hrs⟩ := hr
          simp [go_sem] at hF
          apply frame_to
          · go_simp
            exact rfl
          clear hF hrs hrc hrg hrf
          have HEX := Lib.hid (E6.out.trans hC)
          have HB9 := Lib.hid (HB6.out.ext hC)
          clear hC v0 v1 v2 v3 v4 lk
          clear p0 p1 p2 pf pl
          go_wp2
          go_roundg (lt + 1 - (1 + 1))
          case measure => omega
          case rel => exact ⟨1 + 1, by simp, by omega, by omega, by show J _ _; rw [HNX.out]; exact HJ0.out _ _ _ HJQ.out HEX.out, HKQ.out.trans (Keep.ext HEX.out HZR.out.1)⟩
        · have hwz : IntKind.i64.wrap (0 : Int) = 0 := by rw [IntKind.wrap_i64]; omega
          by_cases hfs : f0 = size
          · have hfb : (f0 == size) = true := by simpa using hfs
            have HNX := Lib.hid (show pre ++ tlk lt size g true r [f0, f1, f2] (1 + 1) = pre ++ tlk lt size g true r [f0, f1, f2] 1 by rw [HTS.out 1, show okLot size true [f0, f1, f2] 1 = false by rw [okLotH_yes]; simpa using hfs]; simp)
            clear hfs
            go_wp2_with fail
            obtain ⟨w6, hw6⟩ : ∃ w6, w6 = wr.alloc (.cells #[.int .i64 f0, .int .i64 f1, .int .i64 f2] 176) := ⟨_, rfl⟩
            rw [← hw6]
            have E6 := Lib.hid (show Ext wr w6 from hw6 ▸ Ext.al _ _)
            have HB6 := Lib.hid (show Blk w6 wr.heap.size 176 #[.int .i64 f0, .int .i64 f1, .int .i64 f2] from hw6 ▸ Blk.new _ _ _)
            clear hw6
            have v0 := fun V (h : Ext w6 V) => (HMQ.out.ext (E6.out.trans h)).t1
            have v1 := fun V (h : Ext w6 V) => (HMQ.out.ext (E6.out.trans h)).t3
            have v2 := fun V (h : Ext w6 V) => ((HB1.out.ext E6.out).ext h).c3.1
            have v3 := fun V (h : Ext w6 V) => ((HB1.out.ext E6.out).ext h).c3.2.1
            have v4 := fun V (h : Ext w6 V) => ((HB1.out.ext E6.out).ext h).c3.2.2.1
            have lk := fun V (h : Ext w6 V) => (show (Instr.lookup 93 (.map (some m)) (.int .i64 (np : Int)) false).run Tryz.prog V = .ok (.bool true) V by have := ((HMP.out.ext E6.out).ext h).look HIN.out; rwa [HFY.out] at this)
            refine wp_region_tame (fun W => Ext w6 W) (fun W W' => Ext W W') (by kernel_rfl) 72 rfl (by decide +kernel) (Ext.refl _).drew ?_
            repeat (apply tame_q rfl; (intro ρ W hC hr hD; (obtain ⟨hrc, hrg, hrf, hrs⟩ := hr); (simp [go_sem] at hD); go_simp; first | exact ⟨⟨hC, Ext.refl _⟩, rfl⟩ | exact ⟨⟨hC, RS.refl _⟩, rfl⟩ | exact rfl); simp only [List.nil_append, List.cons_append])
            refine tame_end 72 rfl rfl (fun ρ W hC hr hF => ?_)
            obtain ⟨hrc, hrg, hrf, hrs⟩ := hr
            simp [go_sem] at hF
            apply frame_to
            · go_simp
              exact rfl
            clear hF hrs hrc hrg hrf
            have HEX := Lib.hid (E6.out.trans hC)
            have HB9 := Lib.hid (HB6.out.ext hC)
            clear hC v0 v1 v2 v3 v4 lk
            clear p0 p1 p2 pf pl
            go_wp2
            go_roundg (lt + 1 - (1 + 1))
            case measure => omega
            case rel => exact ⟨1 + 1, by simp, by omega, by omega, by show J _ _; rw [HNX.out]; exact HJ0.out _ _ _ HJQ.out HEX.out, HKQ.out.trans (Keep.ext HEX.out HZR.out.1)⟩
          · have hfb : (f0 == size) = false := by simpa using hfs
            have HOK := Lib.hid (show okLot size true [f0, f1, f2] 1 = true by rw [okLotH_yes]; simpa using hfs)
            have hcn := HCN.out
            have HCU := Lib.hid (show Cnt lt size (f0 + 1) f1 f2 from ⟨⟨by have := hcn.1; omega, by have := hcn.1; omega, by have := hcn.1; omega, by have := hcn.1; omega, by have := hcn.1; omega, by have := hcn.1; omega⟩, fun h => by have := hcn.2.1; omega, fun h => by have := hcn.2.2; omega⟩)
            have hw1 : IntKind.i64.wrap (f0 + 1) = f0 + 1 := by rw [IntKind.wrap_i64]; have := hcn.1; omega
            clear hfs hcn
            go_wp2_with fail
            obtain ⟨w6, hw6⟩ : ∃ w6, w6 = wr.alloc (.cells #[.int .i64 f0, .int .i64 f1, .int .i64 f2] 176) := ⟨_, rfl⟩
            rw [← hw6]
            have E6 := Lib.hid (show Ext wr w6 from hw6 ▸ Ext.al _ _)
            have HB6 := Lib.hid (show Blk w6 wr.heap.size 176 #[.int .i64 f0, .int .i64 f1, .int .i64 f2] from hw6 ▸ Blk.new _ _ _)
            clear hw6
            have v0 := fun V (h : Ext w6 V) => (HMQ.out.ext (E6.out.trans h)).t1
            have v1 := fun V (h : Ext w6 V) => (HMQ.out.ext (E6.out.trans h)).t3
            have v2 := fun V (h : Ext w6 V) => ((HB1.out.ext E6.out).ext h).c3.1
            have v3 := fun V (h : Ext w6 V) => ((HB1.out.ext E6.out).ext h).c3.2.1
            have v4 := fun V (h : Ext w6 V) => ((HB1.out.ext E6.out).ext h).c3.2.2.1
            have lk := fun V (h : Ext w6 V) => (show (Instr.lookup 93 (.map (some m)) (.int .i64 (np : Int)) false).run Tryz.prog V = .ok (.bool true) V by have := ((HMP.out.ext E6.out).ext h).look HIN.out; rwa [HFY.out] at this)
            refine wp_region_tame (fun W => Ext w6 W) (fun W W' => Ext W W') (by kernel_rfl) 72 rfl (by decide +kernel) (Ext.refl _).drew ?_
            repeat (apply tame_q rfl; (intro ρ W hC hr hD; (obtain ⟨hrc, hrg, hrf, hrs⟩ := hr); (simp [go_sem] at hD); go_simp; first | exact ⟨⟨hC, Ext.refl _⟩, rfl⟩ | exact ⟨⟨hC, RS.refl _⟩, rfl⟩ | exact rfl); simp only [List.nil_append, List.cons_append])
            refine tame_end 72 rfl rfl (fun ρ W hC hr hF => ?_)
            obtain ⟨hrc, hrg, hrf, hrs⟩ := hr
            simp [go_sem] at hF
            apply frame_to
            · go_simp
              exact rfl
            clear hF hrs hrc hrg hrf
            have HEX := Lib.hid (E6.out.trans hC)
            have HB9 := Lib.hid (HB6.out.ext hC)
            clear hC v0 v1 v2 v3 v4 lk
            clear p0 p1 p2 pf pl
            obtain ⟨p0, p1, p2, pf, pl⟩ := HB9.out.c3
            go_wp2_with fail
            have HB8 := Lib.hid (show Blk (W.setCell ⟨wr.heap.size, 0, none⟩ (.int .i64 (f0 + 1))) wr.heap.size 176 #[.int .i64 (f0 + 1), .int .i64 f1, .int .i64 f2] by have := HB9.out.set_ 0 (.int .i64 (f0 + 1)); simpa using this)
            have E8 := Lib.hid (show Ext wr (W.setCell ⟨wr.heap.size, 0, none⟩ (.int .i64 (f0 + 1))) from HEX.out.setCell (by dsimp only; omega) _)
            clear p0 p1 p2 pf pl HB9
            obtain ⟨w9, hw9'⟩ : ∃ w9, w9 = W.setCell ⟨wr.heap.size, 0, none⟩ (.int .i64 (f0 + 1)) := ⟨_, rfl⟩
            rw [← hw9'] at HB8 E8 ⊢
            have HB9 := HB8; have E9 := E8
            clear HB8 E8 hw9'
            have w0 := fun V (h : Ext w9 V) => (HMQ.out.ext (E9.out.trans h)).f
            have u0 := fun V (h : Ext w9 V) => (HB9.out.ext h).c3.1
            have u1 := fun V (h : Ext w9 V) => (HB9.out.ext h).c3.2.1
            have u2 := fun V (h : Ext w9 V) => (HB9.out.ext h).c3.2.2.1
            refine wp_region_tame_cut2 (fun V => Ext w9 V) (fun V V' => Ext V V') (by kernel_rfl) 72 rfl _ _ rfl rfl (by decide +kernel) (by decide +kernel) (by decide +kernel) (by decide +kernel) (by decide +kernel) rfl rfl (Ext.refl _).drew ?_
            simp only [List.dropLast]
            repeat (apply tame_q rfl; (intro ρ W hC hr hD; (obtain ⟨hrc, hrg, hrf, hrs⟩ := hr); (simp [go_sem] at hD); go_simp; first | exact ⟨⟨hC, Ext.refl _⟩, rfl⟩ | exact ⟨⟨hC, RS.refl _⟩, rfl⟩ | exact rfl); simp only [List.nil_append, List.cons_append])
            apply tame_v rfl (OneB (1 : Int)) (fun v V V' _ hE h => h.extM hE)
            · intro ρ V hC hr hD
              obtain ⟨hrc, hrg, hrf, hrs⟩ := hr
              simp [go_sem] at hD
              go_simp
              exact ⟨⟨hC.alloc _, Ext.al _ _⟩, ⟨_, rfl, Blk.new _ _ _⟩⟩
            simp only [List.nil_append, List.cons_append]
            apply tame_v rfl (fun v V => Own encI 3 1 V w9.heap.size v (g ++ [(1 : Int)])) (fun v V V' _ hE h => h.ext hE)
            · intro ρ V hC hr hD
              obtain ⟨hrc, hrg, hrf, hrs⟩ := hr
              simp [go_sem] at hD
              have d1 : ρ (.tmp 64) = .slice B np np := hD.1
              have d2 : OneB (1 : Int) (ρ (.tmp 66)) V := hD.2
              obtain ⟨bb, d3, d4⟩ := d2
              obtain ⟨v', V', hrun, ho, hE⟩ := run_appFull (y := (1 : Int)) (((HSQ.out.ext E9.out).ext hC).capM (Nat.le_refl _) (by unfold maxLen; omega)) d4 36 (by have := HGL.out; omega)
              show opGives _ _ _ _ _ _ _
              unfold opGives execOp
              simp only [resolve, invoke, builtin, Sem.run_bind, Sem.run_pure, Result.andThen_ok, List.map_toArray, List.map_cons, List.map_nil, d1, d3, hrun]
              exact ⟨⟨hC.trans hE, hE⟩, ho.mono hC.size⟩
            simp only [List.nil_append, List.cons_append]
            repeat (apply tame_q rfl; (intro ρ W hC hr hD; (obtain ⟨hrc, hrg, hrf, hrs⟩ := hr); (simp [go_sem] at hD); go_simp; first | exact ⟨⟨hC, Ext.refl _⟩, rfl⟩ | exact ⟨⟨hC, RS.refl _⟩, rfl⟩ | exact rfl); simp only [List.nil_append, List.cons_append])
            refine tame_end 72 rfl rfl (fun ρ V hC hr hF => ?_)
            obtain ⟨hrc, hrg, hrf, hrs⟩ := hr
            have h67 : Own encI 3 1 V w9.heap.size (ρ (.tmp 67)) (g ++ [(1 : Int)]) := hF.2.2.2.2.2.2.2.2.2.1
            simp [go_sem] at hF
            have hsl : SlI V (ρ (.tmp 67)) (g ++ [(1 : Int)]) := h67.sl (fun _ => rfl)
            have hnew : ∀ A7 n7 c7, ρ (.tmp 67) = .slice A7 n7 c7 → ∀ b o, A7 = some ⟨b, o, none⟩ → w9.heap.size ≤ b := by
              intro A7 n7 c7 e b o e2
              rcases own_formG h67 with ⟨h1, h2⟩ | ⟨g', cap, cur, h1, h3, -⟩
              · simp at h2
              · rw [e] at h1; injection h1 with h1; rw [e2] at h1; injection h1 with h1; injection h1 with h1; omega
            obtain ⟨A7, n7, c7, e67, -, -, -⟩ := hsl.form
            rw [e67] at hsl
            have HSL := Lib.hid hsl
            have HNW := Lib.hid (hnew A7 n7 c7 e67)
            have HC9 := Lib.hid (E9.out.trans hC)
            have hsv := hC.size
            have hs9 := E9.out.size
            apply frame_to
            · go_simp
              exact rfl
            clear hF e67 h67 hsl hnew hC hrs hrc hrg hrf w0 u0 u1 u2
            have hpp : (pre ++ tlk lt size g true r [f0, f1, f2] 1) ++ tl lt size (g ++ [(1 : Int)]) r [(f0 + 1), f1, f2] = pre ++ tlk lt size g true r [f0, f1, f2] (1 + 1) := by
              rw [HTS.out 1, HOK.out, List.append_assoc]; rfl
            have HPP := Lib.hid hpp
            have H := IH.out (g ++ [(1 : Int)]) ((f0 + 1)) (f1) (f2) A7 n7 c7 (pre ++ tlk lt size g true r [f0, f1, f2] 1) V (by rw [List.length_append]; simp; have := HGL.out; have := HLE.out; omega) (by rw [List.length_append, ← HGL.out]; exact HFR.out) HCU.out HSL.out (fun b o e _ => by
                have h1 := HNW.out b o e
                have h2 := HZR.out.2
                exact ⟨by omega, fun hx => by have := HX.out b hx; omega⟩) (HMQ.out.ext HC9.out) (HMP.out.ext HC9.out) (HJ0.out _ _ _ HJQ.out HC9.out) (by have := HZR.out.1; omega) (by have := HZR.out.2; omega) (by
                rw [hpp]
                refine List.IsPrefix.trans ?_ HP.out
                rw [HT.out]
                exact (List.prefix_append_right_inj _).2 (HTP.out (1 + 1) (by omega)))
            rw [← HFI.out] at H
            have HH := Lib.hid H
            have HKW := Lib.hid (HKQ.out.trans (Keep.ext (X := X) HC9.out HZR.out.1))
            clear hpp H hsv hs9
            go_wp2_with (go_at_fn fid; refine HH.out.mono ?_; rintro e w' (⟨rfl, k1, k2⟩ | ⟨rfl, q', k1, k2⟩))
            · have K1 := Lib.hid k1; have K2 := Lib.hid k2
              clear k1 k2
              go_wp2
              go_roundg (lt + 1 - (1 + 1))
              case measure => omega
              case rel => exact ⟨1 + 1, by simp, by omega, by omega, by show J _ _; rw [← HPP.out]; exact K1.out, HKW.out.trans K2.out⟩
            · have K1 := Lib.hid k1; have K2 := Lib.hid k2
              clear k1 k2
              go_wp2
              try rw [Exit.noGoto_ret]
              go_ret
              refine .inr ⟨rfl, tlk lt size g true r [f0, f1, f2] 1 ++ q', ?_, by rw [← List.append_assoc]; exact K2.out⟩
              rw [HT.out]
              refine List.IsPrefix.trans ?_ (HTP.out (1 + 1) (by omega))
              rw [HTS.out 1, HOK.out]
              exact (List.prefix_append_right_inj _).2 K1.out
      · cases y
        · have HNX := Lib.hid (show pre ++ tlk lt size g false r [f0, f1, f2] (2 + 1) = pre ++ tlk lt size g false r [f0, f1, f2] 2 by rw [HTS.out 2, okLotH_no]; simp)
          go_wp2_with fail
          obtain ⟨w6, hw6⟩ : ∃ w6, w6 = wr.alloc (.cells #[.int .i64 f0, .int .i64 f1, .int .i64 f2] 176) := ⟨_, rfl⟩
          rw [← hw6]
          have E6 := Lib.hid (show Ext wr w6 from hw6 ▸ Ext.al _ _)
          have HB6 := Lib.hid (show Blk w6 wr.heap.size 176 #[.int .i64 f0, .int .i64 f1, .int .i64 f2] from hw6 ▸ Blk.new _ _ _)
          clear hw6
          have v0 := fun V (h : Ext w6 V) => (HMQ.out.ext (E6.out.trans h)).t1
          have v1 := fun V (h : Ext w6 V) => (HMQ.out.ext (E6.out.trans h)).t3
          have v2 := fun V (h : Ext w6 V) => ((HB1.out.ext E6.out).ext h).c3.1
          have v3 := fun V (h : Ext w6 V) => ((HB1.out.ext E6.out).ext h).c3.2.1
          have v4 := fun V (h : Ext w6 V) => ((HB1.out.ext E6.out).ext h).c3.2.2.1
          have lk := fun V (h : Ext w6 V) => (show (Instr.lookup 93 (.map (some m)) (.int .i64 (np : Int)) false).run Tryz.prog V = .ok (.bool false) V by have := ((HMP.out.ext E6.out).ext h).look HIN.out; rwa [HFY.out] at this)
          refine wp_region_tame (fun W => Ext w6 W) (fun W W' => Ext W W') (by kernel_rfl) 72 rfl (by decide +kernel) (Ext.refl _).drew ?_
          repeat (apply tame_q rfl; (intro ρ W hC hr hD; (obtain ⟨hrc, hrg, hrf, hrs⟩ := hr); (simp [go_sem] at hD); go_simp; first | exact ⟨⟨hC, Ext.refl _⟩, rfl⟩ | exact ⟨⟨hC, RS.refl _⟩, rfl⟩ | exact rfl); simp only [List.nil_append, List.cons_append])
          refine tame_end 72 rfl rfl (fun ρ W hC hr hF => ?_)
          obtain ⟨hrc, hrg, hrf, hrs⟩ := hr
          simp [go_sem] at hF
          apply frame_to
          · go_simp
            exact rfl
          clear hF hrs hrc hrg hrf
          have HEX := Lib.hid (E6.out.trans hC)
          have HB9 := Lib.hid (HB6.out.ext hC)
          clear hC v0 v1 v2 v3 v4 lk
          clear p0 p1 p2 pf pl
          go_wp2
          go_roundg (lt + 1 - (2 + 1))
          case measure => omega
          case rel => exact ⟨2 + 1, by simp, by omega, by omega, by show J _ _; rw [HNX.out]; exact HJ0.out _ _ _ HJQ.out HEX.out, HKQ.out.trans (Keep.ext HEX.out HZR.out.1)⟩
        · have hwz : IntKind.i64.wrap (1 : Int) = 1 := by rw [IntKind.wrap_i64]; omega
          by_cases hfs : f1 = size
          · have hfb : (f1 == size) = true := by simpa using hfs
            have HNX := Lib.hid (show pre ++ tlk lt size g true r [f0, f1, f2] (2 + 1) = pre ++ tlk lt size g true r [f0, f1, f2] 2 by rw [HTS.out 2, show okLot size true [f0, f1, f2] 2 = false by rw [okLotH_yes]; simpa using hfs]; simp)
            clear hfs
            go_wp2_with fail
            obtain ⟨w6, hw6⟩ : ∃ w6, w6 = wr.alloc (.cells #[.int .i64 f0, .int .i64 f1, .int .i64 f2] 176) := ⟨_, rfl⟩
            rw [← hw6]
            have E6 := Lib.hid (show Ext wr w6 from hw6 ▸ Ext.al _ _)
            have HB6 := Lib.hid (show Blk w6 wr.heap.size 176 #[.int .i64 f0, .int .i64 f1, .int .i64 f2] from hw6 ▸ Blk.new _ _ _)
            clear hw6
            have v0 := fun V (h : Ext w6 V) => (HMQ.out.ext (E6.out.trans h)).t1
            have v1 := fun V (h : Ext w6 V) => (HMQ.out.ext (E6.out.trans h)).t3
            have v2 := fun V (h : Ext w6 V) => ((HB1.out.ext E6.out).ext h).c3.1
            have v3 := fun V (h : Ext w6 V) => ((HB1.out.ext E6.out).ext h).c3.2.1
            have v4 := fun V (h : Ext w6 V) => ((HB1.out.ext E6.out).ext h).c3.2.2.1
            have lk := fun V (h : Ext w6 V) => (show (Instr.lookup 93 (.map (some m)) (.int .i64 (np : Int)) false).run Tryz.prog V = .ok (.bool true) V by have := ((HMP.out.ext E6.out).ext h).look HIN.out; rwa [HFY.out] at this)
            refine wp_region_tame (fun W => Ext w6 W) (fun W W' => Ext W W') (by kernel_rfl) 72 rfl (by decide +kernel) (Ext.refl _).drew ?_
            repeat (apply tame_q rfl; (intro ρ W hC hr hD; (obtain ⟨hrc, hrg, hrf, hrs⟩ := hr); (simp [go_sem] at hD); go_simp; first | exact ⟨⟨hC, Ext.refl _⟩, rfl⟩ | exact ⟨⟨hC, RS.refl _⟩, rfl⟩ | exact rfl); simp only [List.nil_append, List.cons_append])
            refine tame_end 72 rfl rfl (fun ρ W hC hr hF => ?_)
            obtain ⟨hrc, hrg, hrf, hrs⟩ := hr
            simp [go_sem] at hF
            apply frame_to
            · go_simp
              exact rfl
            clear hF hrs hrc hrg hrf
            have HEX := Lib.hid (E6.out.trans hC)
            have HB9 := Lib.hid (HB6.out.ext hC)
            clear hC v0 v1 v2 v3 v4 lk
            clear p0 p1 p2 pf pl
            go_wp2
            go_roundg (lt + 1 - (2 + 1))
            case measure => omega
            case rel => exact ⟨2 + 1, by simp, by omega, by omega, by show J _ _; rw [HNX.out]; exact HJ0.out _ _ _ HJQ.out HEX.out, HKQ.out.trans (Keep.ext HEX.out HZR.out.1)⟩
          · have hfb : (f1 == size) = false := by simpa using hfs
            have HOK := Lib.hid (show okLot size true [f0, f1, f2] 2 = true by rw [okLotH_yes]; simpa using hfs)
            have hcn := HCN.out
            have HCU := Lib.hid (show Cnt lt size f0 (f1 + 1) f2 from ⟨⟨by have := hcn.1; omega, by have := hcn.1; omega, by have := hcn.1; omega, by have := hcn.1; omega, by have := hcn.1; omega, by have := hcn.1; omega⟩, fun h => by have := hcn.2.1; omega, fun h => by have := hcn.2.2; omega⟩)
            have hw1 : IntKind.i64.wrap (f1 + 1) = f1 + 1 := by rw [IntKind.wrap_i64]; have := hcn.1; omega
            clear hfs hcn
            go_wp2_with fail
            obtain ⟨w6, hw6⟩ : ∃ w6, w6 = wr.alloc (.cells #[.int .i64 f0, .int .i64 f1, .int .i64 f2] 176) := ⟨_, rfl⟩
            rw [← hw6]
            have E6 := Lib.hid (show Ext wr w6 from hw6 ▸ Ext.al _ _)
            have HB6 := Lib.hid (show Blk w6 wr.heap.size 176 #[.int .i64 f0, .int .i64 f1, .int .i64 f2] from hw6 ▸ Blk.new _ _ _)
            clear hw6
            have v0 := fun V (h : Ext w6 V) => (HMQ.out.ext (E6.out.trans h)).t1
            have v1 := fun V (h : Ext w6 V) => (HMQ.out.ext (E6.out.trans h)).t3
            have v2 := fun V (h : Ext w6 V) => ((HB1.out.ext E6.out).ext h).c3.1
            have v3 := fun V (h : Ext w6 V) => ((HB1.out.ext E6.out).ext h).c3.2.1
            have v4 := fun V (h : Ext w6 V) => ((HB1.out.ext E6.out).ext h).c3.2.2.1
            have lk := fun V (h : Ext w6 V) => (show (Instr.lookup 93 (.map (some m)) (.int .i64 (np : Int)) false).run Tryz.prog V = .ok (.bool true) V by have := ((HMP.out.ext E6.out).ext h).look HIN.out; rwa [HFY.out] at this)
            refine wp_region_tame (fun W => Ext w6 W) (fun W W' => Ext W W') (by kernel_rfl) 72 rfl (by decide +kernel) (Ext.refl _).drew ?_
            repeat (apply tame_q rfl; (intro ρ W hC hr hD; (obtain ⟨hrc, hrg, hrf, hrs⟩ := hr); (simp [go_sem] at hD); go_simp; first | exact ⟨⟨hC, Ext.refl _⟩, rfl⟩ | exact ⟨⟨hC, RS.refl _⟩, rfl⟩ | exact rfl); simp only [List.nil_append, List.cons_append])
            refine tame_end 72 rfl rfl (fun ρ W hC hr hF => ?_)
            obtain ⟨hrc, hrg, hrf, hrs⟩ := hr
            simp [go_sem] at hF
            apply frame_to
            · go_simp
              exact rfl
            clear hF hrs hrc hrg hrf
            have HEX := Lib.hid (E6.out.trans hC)
            have HB9 := Lib.hid (HB6.out.ext hC)
            clear hC v0 v1 v2 v3 v4 lk
            clear p0 p1 p2 pf pl
            obtain ⟨p0, p1, p2, pf, pl⟩ := HB9.out.c3
            go_wp2_with fail
            have HB8 := Lib.hid (show Blk (W.setCell ⟨wr.heap.size, 1, none⟩ (.int .i64 (f1 + 1))) wr.heap.size 176 #[.int .i64 f0, .int .i64 (f1 + 1), .int .i64 f2] by have := HB9.out.set_ 1 (.int .i64 (f1 + 1)); simpa using this)
            have E8 := Lib.hid (show Ext wr (W.setCell ⟨wr.heap.size, 1, none⟩ (.int .i64 (f1 + 1))) from HEX.out.setCell (by dsimp only; omega) _)
            clear p0 p1 p2 pf pl HB9
            obtain ⟨w9, hw9'⟩ : ∃ w9, w9 = W.setCell ⟨wr.heap.size, 1, none⟩ (.int .i64 (f1 + 1)) := ⟨_, rfl⟩
            rw [← hw9'] at HB8 E8 ⊢
            have HB9 := HB8; have E9 := E8
            clear HB8 E8 hw9'
            have w0 := fun V (h : Ext w9 V) => (HMQ.out.ext (E9.out.trans h)).f
            have u0 := fun V (h : Ext w9 V) => (HB9.out.ext h).c3.1
            have u1 := fun V (h : Ext w9 V) => (HB9.out.ext h).c3.2.1
            have u2 := fun V (h : Ext w9 V) => (HB9.out.ext h).c3.2.2.1
            refine wp_region_tame_cut2 (fun V => Ext w9 V) (fun V V' => Ext V V') (by kernel_rfl) 72 rfl _ _ rfl rfl (by decide +kernel) (by decide +kernel) (by decide +kernel) (by decide +kernel) (by decide +kernel) rfl rfl (Ext.refl _).drew ?_
            simp only [List.dropLast]
            repeat (apply tame_q rfl; (intro ρ W hC hr hD; (obtain ⟨hrc, hrg, hrf, hrs⟩ := hr); (simp [go_sem] at hD); go_simp; first | exact ⟨⟨hC, Ext.refl _⟩, rfl⟩ | exact ⟨⟨hC, RS.refl _⟩, rfl⟩ | exact rfl); simp only [List.nil_append, List.cons_append])
            apply tame_v rfl (OneB (2 : Int)) (fun v V V' _ hE h => h.extM hE)
            · intro ρ V hC hr hD
              obtain ⟨hrc, hrg, hrf, hrs⟩ := hr
              simp [go_sem] at hD
              go_simp
              exact ⟨⟨hC.alloc _, Ext.al _ _⟩, ⟨_, rfl, Blk.new _ _ _⟩⟩
            simp only [List.nil_append, List.cons_append]
            apply tame_v rfl (fun v V => Own encI 3 1 V w9.heap.size v (g ++ [(2 : Int)])) (fun v V V' _ hE h => h.ext hE)
            · intro ρ V hC hr hD
              obtain ⟨hrc, hrg, hrf, hrs⟩ := hr
              simp [go_sem] at hD
              have d1 : ρ (.tmp 64) = .slice B np np := hD.1
              have d2 : OneB (2 : Int) (ρ (.tmp 66)) V := hD.2
              obtain ⟨bb, d3, d4⟩ := d2
              obtain ⟨v', V', hrun, ho, hE⟩ := run_appFull (y := (2 : Int)) (((HSQ.out.ext E9.out).ext hC).capM (Nat.le_refl _) (by unfold maxLen; omega)) d4 36 (by have := HGL.out; omega)
              show opGives _ _ _ _ _ _ _
              unfold opGives execOp
              simp only [resolve, invoke, builtin, Sem.run_bind, Sem.run_pure, Result.andThen_ok, List.map_toArray, List.map_cons, List.map_nil, d1, d3, hrun]
              exact ⟨⟨hC.trans hE, hE⟩, ho.mono hC.size⟩
            simp only [List.nil_append, List.cons_append]
            repeat (apply tame_q rfl; (intro ρ W hC hr hD; (obtain ⟨hrc, hrg, hrf, hrs⟩ := hr); (simp [go_sem] at hD); go_simp; first | exact ⟨⟨hC, Ext.refl _⟩, rfl⟩ | exact ⟨⟨hC, RS.refl _⟩, rfl⟩ | exact rfl); simp only [List.nil_append, List.cons_append])
            refine tame_end 72 rfl rfl (fun ρ V hC hr hF => ?_)
            obtain ⟨hrc, hrg, hrf, hrs⟩ := hr
            have h67 : Own encI 3 1 V w9.heap.size (ρ (.tmp 67)) (g ++ [(2 : Int)]) := hF.2.2.2.2.2.2.2.2.2.1
            simp [go_sem] at hF
            have hsl : SlI V (ρ (.tmp 67)) (g ++ [(2 : Int)]) := h67.sl (fun _ => rfl)
            have hnew : ∀ A7 n7 c7, ρ (.tmp 67) = .slice A7 n7 c7 → ∀ b o, A7 = some ⟨b, o, none⟩ → w9.heap.size ≤ b := by
              intro A7 n7 c7 e b o e2
              rcases own_formG h67 with ⟨h1, h2⟩ | ⟨g', cap, cur, h1, h3, -⟩
              · simp at h2
              · rw [e] at h1; injection h1 with h1; rw [e2] at h1; injection h1 with h1; injection h1 with h1; omega
            obtain ⟨A7, n7, c7, e67, -, -, -⟩ := hsl.form
            rw [e67] at hsl
            have HSL := Lib.hid hsl
            have HNW := Lib.hid (hnew A7 n7 c7 e67)
            have HC9 := Lib.hid (E9.out.trans hC)
            have hsv := hC.size
            have hs9 := E9.out.size
            apply frame_to
            · go_simp
              exact rfl
            clear hF e67 h67 hsl hnew hC hrs hrc hrg hrf w0 u0 u1 u2
            have hpp : (pre ++ tlk lt size g true r [f0, f1, f2] 2) ++ tl lt size (g ++ [(2 : Int)]) r [f0, (f1 + 1), f2] = pre ++ tlk lt size g true r [f0, f1, f2] (2 + 1) := by
              rw [HTS.out 2, HOK.out, List.append_assoc]; rfl
            have HPP := Lib.hid hpp
            have H := IH.out (g ++ [(2 : Int)]) (f0) ((f1 + 1)) (f2) A7 n7 c7 (pre ++ tlk lt size g true r [f0, f1, f2] 2) V (by rw [List.length_append]; simp; have := HGL.out; have := HLE.out; omega) (by rw [List.length_append, ← HGL.out]; exact HFR.out) HCU.out HSL.out (fun b o e _ => by
                have h1 := HNW.out b o e
                have h2 := HZR.out.2
                exact ⟨by omega, fun hx => by have := HX.out b hx; omega⟩) (HMQ.out.ext HC9.out) (HMP.out.ext HC9.out) (HJ0.out _ _ _ HJQ.out HC9.out) (by have := HZR.out.1; omega) (by have := HZR.out.2; omega) (by
                rw [hpp]
                refine List.IsPrefix.trans ?_ HP.out
                rw [HT.out]
                exact (List.prefix_append_right_inj _).2 (HTP.out (2 + 1) (by omega)))
            rw [← HFI.out] at H
            have HH := Lib.hid H
            have HKW := Lib.hid (HKQ.out.trans (Keep.ext (X := X) HC9.out HZR.out.1))
            clear hpp H hsv hs9
            go_wp2_with (go_at_fn fid; refine HH.out.mono ?_; rintro e w' (⟨rfl, k1, k2⟩ | ⟨rfl, q', k1, k2⟩))
            · have K1 := Lib.hid k1; have K2 := Lib.hid k2
              clear k1 k2
              go_wp2
              go_roundg (lt + 1 - (2 + 1))
              case measure => omega
              case rel => exact ⟨2 + 1, by simp, by omega, by omega, by show J _ _; rw [← HPP.out]; exact K1.out, HKW.out.trans K2.out⟩
            · have K1 := Lib.hid k1; have K2 := Lib.hid k2
              clear k1 k2
              go_wp2
              try rw [Exit.noGoto_ret]
              go_ret
              refine .inr ⟨rfl, tlk lt size g true r [f0, f1, f2] 2 ++ q', ?_, by rw [← List.append_assoc]; exact K2.out⟩
              rw [HT.out]
              refine List.IsPrefix.trans ?_ (HTP.out (2 + 1) (by omega))
              rw [HTS.out 2, HOK.out]
              exact (List.prefix_append_right_inj _).2 K1.out
      · cases y
        · have HNX := Lib.hid (show pre ++ tlk lt size g false r [f0, f1, f2] (3 + 1) = pre ++ tlk lt size g false r [f0, f1, f2] 3 by rw [HTS.out 3, okLotH_no]; simp)
          go_wp2_with fail
          obtain ⟨w6, hw6⟩ : ∃ w6, w6 = wr.alloc (.cells #[.int .i64 f0, .int .i64 f1, .int .i64 f2] 176) := ⟨_, rfl⟩
          rw [← hw6]
          have E6 := Lib.hid (show Ext wr w6 from hw6 ▸ Ext.al _ _)
          have HB6 := Lib.hid (show Blk w6 wr.heap.size 176 #[.int .i64 f0, .int .i64 f1, .int .i64 f2] from hw6 ▸ Blk.new _ _ _)
          clear hw6
          have v0 := fun V (h : Ext w6 V) => (HMQ.out.ext (E6.out.trans h)).t1
          have v1 := fun V (h : Ext w6 V) => (HMQ.out.ext (E6.out.trans h)).t3
          have v2 := fun V (h : Ext w6 V) => ((HB1.out.ext E6.out).ext h).c3.1
          have v3 := fun V (h : Ext w6 V) => ((HB1.out.ext E6.out).ext h).c3.2.1
          have v4 := fun V (h : Ext w6 V) => ((HB1.out.ext E6.out).ext h).c3.2.2.1
          have lk := fun V (h : Ext w6 V) => (show (Instr.lookup 93 (.map (some m)) (.int .i64 (np : Int)) false).run Tryz.prog V = .ok (.bool false) V by have := ((HMP.out.ext E6.out).ext h).look HIN.out; rwa [HFY.out] at this)
          refine wp_region_tame (fun W => Ext w6 W) (fun W W' => Ext W W') (by kernel_rfl) 72 rfl (by decide +kernel) (Ext.refl _).drew ?_
          repeat (apply tame_q rfl; (intro ρ W hC hr hD; (obtain ⟨hrc, hrg, hrf, hrs⟩ := hr); (simp [go_sem] at hD); go_simp; first | exact ⟨⟨hC, Ext.refl _⟩, rfl⟩ | exact ⟨⟨hC, RS.refl _⟩, rfl⟩ | exact rfl); simp only [List.nil_append, List.cons_append])
          refine tame_end 72 rfl rfl (fun ρ W hC hr hF => ?_)
          obtain ⟨hrc, hrg, hrf, hrs⟩ := hr
          simp [go_sem] at hF
          apply frame_to
          · go_simp
            exact rfl
          clear hF hrs hrc hrg hrf
          have HEX := Lib.hid (E6.out.trans hC)
          have HB9 := Lib.hid (HB6.out.ext hC)
          clear hC v0 v1 v2 v3 v4 lk
          clear p0 p1 p2 pf pl
          go_wp2
          go_roundg (lt + 1 - (3 + 1))
          case measure => omega
          case rel => exact ⟨3 + 1, by simp, by omega, by omega, by show J _ _; rw [HNX.out]; exact HJ0.out _ _ _ HJQ.out HEX.out, HKQ.out.trans (Keep.ext HEX.out HZR.out.1)⟩
        · have hwz : IntKind.i64.wrap (2 : Int) = 2 := by rw [IntKind.wrap_i64]; omega
          by_cases hfs : f2 = size
          · have hfb : (f2 == size) = true := by simpa using hfs
            have HNX := Lib.hid (show pre ++ tlk lt size g true r [f0, f1, f2] (3 + 1) = pre ++ tlk lt size g true r [f0, f1, f2] 3 by rw [HTS.out 3, show okLot size true [f0, f1, f2] 3 = false by rw [okLotH_yes]; simpa using hfs]; simp)
            clear hfs
            go_wp2_with fail
            obtain ⟨w6, hw6⟩ : ∃ w6, w6 = wr.alloc (.cells #[.int .i64 f0, .int .i64 f1, .int .i64 f2] 176) := ⟨_, rfl⟩
            rw [← hw6]
            have E6 := Lib.hid (show Ext wr w6 from hw6 ▸ Ext.al _ _)
            have HB6 := Lib.hid (show Blk w6 wr.heap.size 176 #[.int .i64 f0, .int .i64 f1, .int .i64 f2] from hw6 ▸ Blk.new _ _ _)
            clear hw6
            have v0 := fun V (h : Ext w6 V) => (HMQ.out.ext (E6.out.trans h)).t1
            have v1 := fun V (h : Ext w6 V) => (HMQ.out.ext (E6.out.trans h)).t3
            have v2 := fun V (h : Ext w6 V) => ((HB1.out.ext E6.out).ext h).c3.1
            have v3 := fun V (h : Ext w6 V) => ((HB1.out.ext E6.out).ext h).c3.2.1
            have v4 := fun V (h : Ext w6 V) => ((HB1.out.ext E6.out).ext h).c3.2.2.1
            have lk := fun V (h : Ext w6 V) => (show (Instr.lookup 93 (.map (some m)) (.int .i64 (np : Int)) false).run Tryz.prog V = .ok (.bool true) V by have := ((HMP.out.ext E6.out).ext h).look HIN.out; rwa [HFY.out] at this)
            refine wp_region_tame (fun W => Ext w6 W) (fun W W' => Ext W W') (by kernel_rfl) 72 rfl (by decide +kernel) (Ext.refl _).drew ?_
            repeat (apply tame_q rfl; (intro ρ W hC hr hD; (obtain ⟨hrc, hrg, hrf, hrs⟩ := hr); (simp [go_sem] at hD); go_simp; first | exact ⟨⟨hC, Ext.refl _⟩, rfl⟩ | exact ⟨⟨hC, RS.refl _⟩, rfl⟩ | exact rfl); simp only [List.nil_append, List.cons_append])
            refine tame_end 72 rfl rfl (fun ρ W hC hr hF => ?_)
            obtain ⟨hrc, hrg, hrf, hrs⟩ := hr
            simp [go_sem] at hF
            apply frame_to
            · go_simp
              exact rfl
            clear hF hrs hrc hrg hrf
            have HEX := Lib.hid (E6.out.trans hC)
            have HB9 := Lib.hid (HB6.out.ext hC)
            clear hC v0 v1 v2 v3 v4 lk
            clear p0 p1 p2 pf pl
            go_wp2
            go_roundg (lt + 1 - (3 + 1))
            case measure => omega
            case rel => exact ⟨3 + 1, by simp, by omega, by omega, by show J _ _; rw [HNX.out]; exact HJ0.out _ _ _ HJQ.out HEX.out, HKQ.out.trans (Keep.ext HEX.out HZR.out.1)⟩
          · have hfb : (f2 == size) = false := by simpa using hfs
            have HOK := Lib.hid (show okLot size true [f0, f1, f2] 3 = true by rw [okLotH_yes]; simpa using hfs)
            have hcn := HCN.out
            have HCU := Lib.hid (show Cnt lt size f0 f1 (f2 + 1) from ⟨⟨by have := hcn.1; omega, by have := hcn.1; omega, by have := hcn.1; omega, by have := hcn.1; omega, by have := hcn.1; omega, by have := hcn.1; omega⟩, fun h => by have := hcn.2.1; omega, fun h => by have := hcn.2.2; omega⟩)
            have hw1 : IntKind.i64.wrap (f2 + 1) = f2 + 1 := by rw [IntKind.wrap_i64]; have := hcn.1; omega
            clear hfs hcn
            go_wp2_with fail
            obtain ⟨w6, hw6⟩ : ∃ w6, w6 = wr.alloc (.cells #[.int .i64 f0, .int .i64 f1, .int .i64 f2] 176) := ⟨_, rfl⟩
            rw [← hw6]
            have E6 := Lib.hid (show Ext wr w6 from hw6 ▸ Ext.al _ _)
            have HB6 := Lib.hid (show Blk w6 wr.heap.size 176 #[.int .i64 f0, .int .i64 f1, .int .i64 f2] from hw6 ▸ Blk.new _ _ _)
            clear hw6
            have v0 := fun V (h : Ext w6 V) => (HMQ.out.ext (E6.out.trans h)).t1
            have v1 := fun V (h : Ext w6 V) => (HMQ.out.ext (E6.out.trans h)).t3
            have v2 := fun V (h : Ext w6 V) => ((HB1.out.ext E6.out).ext h).c3.1
            have v3 := fun V (h : Ext w6 V) => ((HB1.out.ext E6.out).ext h).c3.2.1
            have v4 := fun V (h : Ext w6 V) => ((HB1.out.ext E6.out).ext h).c3.2.2.1
            have lk := fun V (h : Ext w6 V) => (show (Instr.lookup 93 (.map (some m)) (.int .i64 (np : Int)) false).run Tryz.prog V = .ok (.bool true) V by have := ((HMP.out.ext E6.out).ext h).look HIN.out; rwa [HFY.out] at this)
            refine wp_region_tame (fun W => Ext w6 W) (fun W W' => Ext W W') (by kernel_rfl) 72 rfl (by decide +kernel) (Ext.refl _).drew ?_
            repeat (apply tame_q rfl; (intro ρ W hC hr hD; (obtain ⟨hrc, hrg, hrf, hrs⟩ := hr); (simp [go_sem] at hD); go_simp; first | exact ⟨⟨hC, Ext.refl _⟩, rfl⟩ | exact ⟨⟨hC, RS.refl _⟩, rfl⟩ | exact rfl); simp only [List.nil_append, List.cons_append])
            refine tame_end 72 rfl rfl (fun ρ W hC hr hF => ?_)
            obtain ⟨hrc, hrg, hrf, hrs⟩ := hr
            simp [go_sem] at hF
            apply frame_to
            · go_simp
              exact rfl
            clear hF hrs hrc hrg hrf
            have HEX := Lib.hid (E6.out.trans hC)
            have HB9 := Lib.hid (HB6.out.ext hC)
            clear hC v0 v1 v2 v3 v4 lk
            clear p0 p1 p2 pf pl
            obtain ⟨p0, p1, p2, pf, pl⟩ := HB9.out.c3
            go_wp2_with fail
            have HB8 := Lib.hid (show Blk (W.setCell ⟨wr.heap.size, 2, none⟩ (.int .i64 (f2 + 1))) wr.heap.size 176 #[.int .i64 f0, .int .i64 f1, .int .i64 (f2 + 1)] by have := HB9.out.set_ 2 (.int .i64 (f2 + 1)); simpa using this)
            have E8 := Lib.hid (show Ext wr (W.setCell ⟨wr.heap.size, 2, none⟩ (.int .i64 (f2 + 1))) from HEX.out.setCell (by dsimp only; omega) _)
            clear p0 p1 p2 pf pl HB9
            obtain ⟨w9, hw9'⟩ : ∃ w9, w9 = W.setCell ⟨wr.heap.size, 2, none⟩ (.int .i64 (f2 + 1)) := ⟨_, rfl⟩
            rw [← hw9'] at HB8 E8 ⊢
            have HB9 := HB8; have E9 := E8
            clear HB8 E8 hw9'
            have w0 := fun V (h : Ext w9 V) => (HMQ.out.ext (E9.out.trans h)).f
            have u0 := fun V (h : Ext w9 V) => (HB9.out.ext h).c3.1
            have u1 := fun V (h : Ext w9 V) => (HB9.out.ext h).c3.2.1
            have u2 := fun V (h : Ext w9 V) => (HB9.out.ext h).c3.2.2.1
            refine wp_region_tame_cut2 (fun V => Ext w9 V) (fun V V' => Ext V V') (by kernel_rfl) 72 rfl _ _ rfl rfl (by decide +kernel) (by decide +kernel) (by decide +kernel) (by decide +kernel) (by decide +kernel) rfl rfl (Ext.refl _).drew ?_
            simp only [List.dropLast]
            repeat (apply tame_q rfl; (intro ρ W hC hr hD; (obtain ⟨hrc, hrg, hrf, hrs⟩ := hr); (simp [go_sem] at hD); go_simp; first | exact ⟨⟨hC, Ext.refl _⟩, rfl⟩ | exact ⟨⟨hC, RS.refl _⟩, rfl⟩ | exact rfl); simp only [List.nil_append, List.cons_append])
            apply tame_v rfl (OneB (3 : Int)) (fun v V V' _ hE h => h.extM hE)
            · intro ρ V hC hr hD
              obtain ⟨hrc, hrg, hrf, hrs⟩ := hr
              simp [go_sem] at hD
              go_simp
              exact ⟨⟨hC.alloc _, Ext.al _ _⟩, ⟨_, rfl, Blk.new _ _ _⟩⟩
            simp only [List.nil_append, List.cons_append]
            apply tame_v rfl (fun v V => Own encI 3 1 V w9.heap.size v (g ++ [(3 : Int)])) (fun v V V' _ hE h => h.ext hE)
            · intro ρ V hC hr hD
              obtain ⟨hrc, hrg, hrf, hrs⟩ := hr
              simp [go_sem] at hD
              have d1 : ρ (.tmp 64) = .slice B np np := hD.1
              have d2 : OneB (3 : Int) (ρ (.tmp 66)) V := hD.2
              obtain ⟨bb, d3, d4⟩ := d2
              obtain ⟨v', V', hrun, ho, hE⟩ := run_appFull (y := (3 : Int)) (((HSQ.out.ext E9.out).ext hC).capM (Nat.le_refl _) (by unfold maxLen; omega)) d4 36 (by have := HGL.out; omega)
              show opGives _ _ _ _ _ _ _
              unfold opGives execOp
              simp only [resolve, invoke, builtin, Sem.run_bind, Sem.run_pure, Result.andThen_ok, List.map_toArray, List.map_cons, List.map_nil, d1, d3, hrun]
              exact ⟨⟨hC.trans hE, hE⟩, ho.mono hC.size⟩
            simp only [List.nil_append, List.cons_append]
            repeat (apply tame_q rfl; (intro ρ W hC hr hD; (obtain ⟨hrc, hrg, hrf, hrs⟩ := hr); (simp [go_sem] at hD); go_simp; first | exact ⟨⟨hC, Ext.refl _⟩, rfl⟩ | exact ⟨⟨hC, RS.refl _⟩, rfl⟩ | exact rfl); simp only [List.nil_append, List.cons_append])
            refine tame_end 72 rfl rfl (fun ρ V hC hr hF => ?_)
            obtain ⟨hrc, hrg, hrf, hrs⟩ := hr
            have h67 : Own encI 3 1 V w9.heap.size (ρ (.tmp 67)) (g ++ [(3 : Int)]) := hF.2.2.2.2.2.2.2.2.2.1
            simp [go_sem] at hF
            have hsl : SlI V (ρ (.tmp 67)) (g ++ [(3 : Int)]) := h67.sl (fun _ => rfl)
            have hnew : ∀ A7 n7 c7, ρ (.tmp 67) = .slice A7 n7 c7 → ∀ b o, A7 = some ⟨b, o, none⟩ → w9.heap.size ≤ b := by
              intro A7 n7 c7 e b o e2
              rcases own_formG h67 with ⟨h1, h2⟩ | ⟨g', cap, cur, h1, h3, -⟩
              · simp at h2
              · rw [e] at h1; injection h1 with h1; rw [e2] at h1; injection h1 with h1; injection h1 with h1; omega
            obtain ⟨A7, n7, c7, e67, -, -, -⟩ := hsl.form
            rw [e67] at hsl
            have HSL := Lib.hid hsl
            have HNW := Lib.hid (hnew A7 n7 c7 e67)
            have HC9 := Lib.hid (E9.out.trans hC)
            have hsv := hC.size
            have hs9 := E9.out.size
            apply frame_to
            · go_simp
              exact rfl
            clear hF e67 h67 hsl hnew hC hrs hrc hrg hrf w0 u0 u1 u2
            have hpp : (pre ++ tlk lt size g true r [f0, f1, f2] 3) ++ tl lt size (g ++ [(3 : Int)]) r [f0, f1, (f2 + 1)] = pre ++ tlk lt size g true r [f0, f1, f2] (3 + 1) := by
              rw [HTS.out 3, HOK.out, List.append_assoc]; rfl
            have HPP := Lib.hid hpp
            have H := IH.out (g ++ [(3 : Int)]) (f0) (f1) ((f2 + 1)) A7 n7 c7 (pre ++ tlk lt size g true r [f0, f1, f2] 3) V (by rw [List.length_append]; simp; have := HGL.out; have := HLE.out; omega) (by rw [List.length_append, ← HGL.out]; exact HFR.out) HCU.out HSL.out (fun b o e _ => by
                have h1 := HNW.out b o e
                have h2 := HZR.out.2
                exact ⟨by omega, fun hx => by have := HX.out b hx; omega⟩) (HMQ.out.ext HC9.out) (HMP.out.ext HC9.out) (HJ0.out _ _ _ HJQ.out HC9.out) (by have := HZR.out.1; omega) (by have := HZR.out.2; omega) (by
                rw [hpp]
                refine List.IsPrefix.trans ?_ HP.out
                rw [HT.out]
                exact (List.prefix_append_right_inj _).2 (HTP.out (3 + 1) (by omega)))
            rw [← HFI.out] at H
            have HH := Lib.hid H
            have HKW := Lib.hid (HKQ.out.trans (Keep.ext (X := X) HC9.out HZR.out.1))
            clear hpp H hsv hs9
            go_wp2_with (go_at_fn fid; refine HH.out.mono ?_; rintro e w' (⟨rfl, k1, k2⟩ | ⟨rfl, q', k1, k2⟩))
            · have K1 := Lib.hid k1; have K2 := Lib.hid k2
              clear k1 k2
              go_wp2
              go_roundg (lt + 1 - (3 + 1))
              case measure => omega
              case rel => exact ⟨3 + 1, by simp, by omega, by omega, by show J _ _; rw [← HPP.out]; exact K1.out, HKW.out.trans K2.out⟩
            · have K1 := Lib.hid k1; have K2 := Lib.hid k2
              clear k1 k2
              go_wp2
              try rw [Exit.noGoto_ret]
              go_ret
              refine .inr ⟨rfl, tlk lt size g true r [f0, f1, f2] 3 ++ q', ?_, by rw [← List.append_assoc]; exact K2.out⟩
              rw [HT.out]
              refine List.IsPrefix.trans ?_ (HTP.out (3 + 1) (by omega))
              rw [HTS.out 3, HOK.out]
              exact (List.prefix_append_right_inj _).2 K1.out
    · have hke : k = lt + 1 := by omega
      subst hke
      have hkz : ¬ (((lt + 1 : Nat) : Int) < (lt : Int) + 1) := by omega
      have HW := Lib.hid ((Keep.ext (X := X) E5.out HN0.out).trans HKQ.out)
      go_wp2
      try rw [Exit.noGoto_ret]
      go_ret
      exact .inl ⟨rfl, by rw [HT.out]; exact HJQ.out, HW.out⟩
end Go.Proofs.YtkpengeaolcjhaaGreatDoor
/- mill.plans as a sequence; best. -/
namespace Go.Proofs.YtkpengeaolcjhaaGreatDoor
open Go.RowKit Go.Shelf Go.Lib
set_option maxRecDepth 100000
set_option linter.unusedSimpArgs false

theorem put_any {fid : FuncId} {lid bt bfu by' bp lt n₀ x₀ : Nat} {size : Int} {A : Option Addr} {n c m nn : Nat} {F0 F1 F2 : Int} {X : Nat → Prop} {J Jx : List (List Int) → World → Prop} {tot : List (List Int)} {l : List Rc}
    (hfid : fid = 140) (hl1 : 1 ≤ lt) (hl3 : lt ≤ 3) (hs4 : size ≤ 4) (hn : n = l.length) (hn7 : l.length ≤ 7) (hF : [F0, F1, F2] = fullF lt size) (hX : ∀ b, X b → b < x₀) (x1 : ¬ X bt) (x2 : ¬ X bfu) (x3 : ¬ X by') (x4 : ¬ X bp) (hmn : m < n₀)
    (hJ0 : ∀ pre A B, J pre A → Ext A B → J pre B)
    (hY : ∀ m pre x v W1, J pre W1 → SlI W1 v x → pre ++ [x] <+: tot → YieldAt Fence.wide m Tryz.prog lid #[v] W1 fun e W' => (e = .returned (.bool true) ∧ J (pre ++ [x]) W' ∧ Keep n₀ X W1 W') ∨ (e = .returned (.bool false) ∧ Jx (pre ++ [x]) W')) :
    ∀ rest, PutC fid lid bt bfu by' bp lt n₀ x₀ size A n c m nn F0 F1 F2 X J Jx tot l rest
  | [] => by
    intro g f0 f1 f2 B np cp pre W₀ hlen hfit hcnt hs hB hM hmp hJ hn0 hx0 hp
    have hnp : np = g.length := by obtain ⟨A', c', e, -⟩ := hs; injection e
    exact put_leaf hF hJ0 hY g f0 f1 f2 B np cp pre W₀ hs hM (by simp at hlen; omega) hJ hn0 hp
  | _ :: r => put_cons hfid hl1 hl3 hs4 hn hn7 hX x1 x2 x3 x4 hmn hJ0 (put_any hfid hl1 hl3 hs4 hn hn7 hF hX x1 x2 x3 x4 hmn hJ0 hY r)
theorem tl_all {lt : Nat} {size : Int} {l : List Rc} : tl lt size [] (l.map (fun r => fitB r.c)) [0, 0, 0] = plansL (mOf lt size l) := by
  have e : fitL (mOf (lt : Int) size l) = l.map (fun r => fitB r.c) := by unfold fitL; rw [List.map_map]; rfl
  unfold tl plansL
  rw [e]
  simp
set_option maxHeartbeats 2000000 in
theorem plans_seqs {bt bfu lt n₀ : Nat} {size : Int} {A : Option Addr} {n c m nn : Nat} {F0 F1 F2 : Int} {X : Nat → Prop} {l : List Rc} {w : World}
    (hl1 : 1 ≤ lt) (hl3 : lt ≤ 3) (hs0 : 0 ≤ size) (hs4 : size ≤ 4) (hn : n = l.length) (hn7 : l.length ≤ 7) (hF : [F0, F1, F2] = fullF lt size) (hX : ∀ b, X b → b < w.heap.size) (x1 : ¬ X bt) (x2 : ¬ X bfu) (hmn : m < n₀) (hnw : n₀ ≤ w.heap.size)
    (hbt : Blk w bt 95 #[.int .i64 (lt : Int), .int .i64 size, .slice A n c, .map (some m)]) (hbf : Blk w bfu 176 #[.int .i64 F0, .int .i64 F1, .int .i64 F2]) (hmp : MapB w m nn (fitTo l l.length)) :
    Seqs Tryz.prog 139 #[.pointer (some ⟨bt, 0, none⟩), .pointer (some ⟨bfu, 0, none⟩)] n₀ X (fun x v W => SlI W v x) (plansL (mOf lt size l)) w := by
  intro lid J Jx W hE hJ hJx hY h0
  have hsz := hE.size
  have hE4 : Ext W ((W.alloc (.cells #[.func (.yield lid) #[] #[]] 180)).alloc (.cells #[.func (.func 140) #[] #[.pointer (some ⟨bt, 0, none⟩), .pointer (some ⟨bfu, 0, none⟩), .pointer (some ⟨W.heap.size, 0, none⟩), .pointer (some ⟨W.heap.size + 1, 0, none⟩)]] 211)) := (Ext.al _ _).alloc _
  have HPA := Lib.hid (put_any (fid := 140) (lid := lid) (bt := bt) (bfu := bfu) (by' := W.heap.size) (bp := W.heap.size + 1) (lt := lt) (n₀ := n₀) (x₀ := w.heap.size) (size := size) (A := A) (n := n) (c := c) (m := m) (nn := nn) (F0 := F0) (F1 := F1) (F2 := F2) (X := X) (J := J) (Jx := Jx) (tot := plansL (mOf lt size l)) (l := l)
    rfl hl1 hl3 hs4 hn hn7 hF hX x1 x2 (fun h => by have := hX _ h; omega) (fun h => by have := hX _ h; omega) hmn hJ hY (l.map (fun r => fitB r.c)))
  obtain ⟨w4, hw4⟩ : ∃ w4, w4 = ((W.alloc (.cells #[.func (.yield lid) #[] #[]] 180)).alloc (.cells #[.func (.func 140) #[] #[.pointer (some ⟨bt, 0, none⟩), .pointer (some ⟨bfu, 0, none⟩), .pointer (some ⟨W.heap.size, 0, none⟩), .pointer (some ⟨W.heap.size + 1, 0, none⟩)]] 211)) := ⟨_, rfl⟩
  rw [← hw4] at hE4
  have hbt4 := (hbt.ext hE).ext hE4
  have hbf4 := (hbf.ext hE).ext hE4
  have hy4 : w4.cell? ⟨W.heap.size, 0, none⟩ = some (.func (.yield lid) #[] #[]) := by rw [hw4]; simp [go_sem]
  have hp4 : w4.cell? ⟨W.heap.size + 1, 0, none⟩ = some (.func (.func 140) #[] #[.pointer (some ⟨bt, 0, none⟩), .pointer (some ⟨bfu, 0, none⟩), .pointer (some ⟨W.heap.size, 0, none⟩), .pointer (some ⟨W.heap.size + 1, 0, none⟩)]) := by rw [hw4]; simp [go_sem]
  have HPM := Lib.hid (show PMl 140 lid bt bfu W.heap.size (W.heap.size + 1) lt size A n c m F0 F1 F2 w4 from ⟨hbt4.c4.1, hbt4.c4.2.1, hbt4.c4.2.2.1, hbt4.c4.2.2.2.1, hbf4.c3.1, hbf4.c3.2.1, hbf4.c3.2.2.1, hy4, hp4⟩)
  have HMP := Lib.hid ((hmp.ext hE).ext hE4)
  have HJ4 := Lib.hid (hJ _ _ _ h0 hE4)
  have hz4 := hE4.size
  have HTL := Lib.hid (tl_all (lt := lt) (size := size) (l := l))
  have HIC := Lib.hid (HPA.out [] 0 0 0 none 0 0 [] w4 (by simp) (by simp) ⟨⟨by omega, hs0, by omega, hs0, by omega, hs0⟩, fun _ => rfl, fun _ => rfl⟩ (Sl.nil _) (fun b o e => by cases e) HPM.out HMP.out HJ4.out (by omega) (by omega) (by rw [HTL.out, List.nil_append]; exact List.prefix_refl _))
  clear HPA hbt hbf hmp hE hE4 hJ hJx hY h0 hbt4 hbf4 hX hF hz4
  go_enter Tryz.func139, Tryz.ntmps139
  go_wp2_with fail
  rw [← hw4]
  refine HIC.out.mono ?_
  rintro e w' (⟨rfl, k1, k2⟩ | ⟨rfl, q', k1, k2⟩)
  · rw [HTL.out, List.nil_append] at k1
    have K1 := Lib.hid k1
    clear k1 k2
    go_wp2
    go_end0
    exact ⟨⟨_, rfl⟩, .inl K1.out⟩
  · rw [HTL.out] at k1
    rw [List.nil_append] at k2
    have K1 := Lib.hid k1; have K2 := Lib.hid k2
    clear k1 k2
    go_wp2
    go_end0
    exact ⟨⟨_, rfl⟩, .inr ⟨q', K1.out, K2.out⟩⟩

set_option maxHeartbeats 1000000 in
theorem plans_any (lt : Nat) (size : Int) (A : Option Addr) (n c m : Nat) (h3 : lt ≤ 3) (w : World) :
    Calls Tryz.prog 103 #[valT (lt : Int) size (.slice A n c) m] w fun e w' => (∃ bfu F0 F1 F2, e = .returned (.func (.func 139) #[] #[.pointer (some ⟨w.heap.size, 0, none⟩), .pointer (some ⟨bfu, 0, none⟩)]) ∧ [F0, F1, F2] = fullF lt size ∧ w.heap.size ≤ bfu ∧ Blk w' w.heap.size 95 #[.int .i64 (lt : Int), .int .i64 size, .slice A n c, .map (some m)] ∧ Blk w' bfu 176 #[.int .i64 F0, .int .i64 F1, .int .i64 F2]) ∧ Ext w w' := by
  have hmf := hmf Tryz.prog
  go_enter Tryz.func103, Tryz.ntmps103
  go_wp2_with fail
  refine (full_any lt size _ A n c m rfl h3 _).mono ?_
  rintro e w1 ⟨⟨F0, F1, F2, rfl, hF⟩, hE⟩
  have HB := Lib.hid ((Blk.new w 95 #[.int .i64 (lt : Int), .int .i64 size, .slice A n c, .map (some m)]).ext hE)
  have HE := Lib.hid ((Ext.al w (.cells #[.int .i64 (lt : Int), .int .i64 size, .slice A n c, .map (some m)] 95)).trans hE)
  have HF := Lib.hid hF
  clear hE hF
  go_wp2
  go_ret
  exact ⟨⟨w1.heap.size, F0, F1, F2, rfl, HF.out, HE.out.size, HB.out.alloc _, Blk.new _ _ _⟩, HE.out.alloc _⟩

/-- The order of plans. -/
def ordP (m : Mll) (a b : List Int) : Int := ordU (unev m a) (unev m b)
theorem bestP_ord (m : Mll) : firstM (lessO (ordP m)) (plansL m) = bestP m := by
  unfold bestP
  congr 1
  funext a b
  exact ordU_neg _ _
set_option maxHeartbeats 1000000 in
theorem f104_any (lt : Nat) (size : Int) (l : List Rc) (A : Option Addr) (n c m tb : Nat) (x y : List Int) (v v' : Value) (w : World) (hm : Mok (mOf lt size l)) (hs : SlC w (.slice A n c) l) (hx : SlI w v x) (hy : SlI w v' y) (px : POk lt l.length x) (py : POk lt l.length y)
    (htb : w.cell? ⟨tb, 0, none⟩ = some (.func (.func 67) #[valT (lt : Int) size (.slice A n c) m] #[])) :
    Calls Tryz.prog 104 #[v, v', .pointer (some ⟨tb, 0, none⟩)] w fun e w' => e = .returned (.int .i64 (ordP (mOf lt size l) x y)) ∧ Ext w w' := by
  have HS := Lib.hid hs; have HX := Lib.hid hx; have HY := Lib.hid hy; have HM := Lib.hid hm; have PX := Lib.hid px; have PY := Lib.hid py
  obtain ⟨Ax, nx, cx, rfl, -, -, -⟩ := hx.form
  obtain ⟨Ay, ny, cy, rfl, -, -, -⟩ := hy.form
  have q0 := fun V (h : Ext w V) => (h.cells.1 tb 0 (is_cells htb).1).trans htb
  have HO := Lib.hid (show ordP (mOf lt size l) x y = ordU (unev (mOf lt size l) x) (unev (mOf lt size l) y) from rfl)
  clear hs hx hy hm px py htb
  go_enter Tryz.func104, Tryz.ntmps104
  go_wp2_with fail
  refine wp_region_tame (fun W => Ext w W) (fun W W' => Ext W W') (by kernel_rfl) 13 rfl (by decide +kernel) (Ext.refl _).drew ?_
  repeat (apply tame_q rfl; (intro ρ W hC hr hD; (obtain ⟨hrc, hrg, hrf, hrs⟩ := hr); (simp [go_sem] at hD); go_simp; first | exact ⟨⟨hC, Ext.refl _⟩, rfl⟩ | exact ⟨⟨hC, RS.refl _⟩, rfl⟩ | exact rfl); simp only [List.nil_append, List.cons_append])
  apply tame_q rfl
  · intro ρ W hC hr hD
    obtain ⟨hrc, hrg, hrf, hrs⟩ := hr
    simp [go_sem] at hD
    have HC := Lib.hid hC
    go_simp
    refine (of_any lt size l x _ _ (some m) W HM.out (HS.out.ext HC.out) (HX.out.ext HC.out) PX.out).mono ?_
    rintro e w' ⟨rfl, hE⟩
    exact ⟨_, rfl, ⟨HC.out.trans hE, hE⟩, rfl⟩
  simp only [List.nil_append, List.cons_append]
  repeat (apply tame_q rfl; (intro ρ W hC hr hD; (obtain ⟨hrc, hrg, hrf, hrs⟩ := hr); (simp [go_sem] at hD); go_simp; first | exact ⟨⟨hC, Ext.refl _⟩, rfl⟩ | exact ⟨⟨hC, RS.refl _⟩, rfl⟩ | exact rfl); simp only [List.nil_append, List.cons_append])
  apply tame_q rfl
  · intro ρ W hC hr hD
    obtain ⟨hrc, hrg, hrf, hrs⟩ := hr
    simp [go_sem] at hD
    have HC := Lib.hid hC
    go_simp
    refine (of_any lt size l y _ _ (some m) W HM.out (HS.out.ext HC.out) (HY.out.ext HC.out) PY.out).mono ?_
    rintro e w' ⟨rfl, hE⟩
    exact ⟨_, rfl, ⟨HC.out.trans hE, hE⟩, rfl⟩
  simp only [List.nil_append, List.cons_append]
  apply tame_q rfl
  · intro ρ W hC hr hD
    obtain ⟨hrc, hrg, hrf, hrs⟩ := hr
    simp [go_sem] at hD
    go_simp
    refine (order_any _ _ W).mono ?_
    rintro e w' ⟨rfl, hE⟩
    exact ⟨_, rfl, ⟨hC.trans hE, hE⟩, rfl⟩
  simp only [List.nil_append, List.cons_append]
  repeat (apply tame_q rfl; (intro ρ W hC hr hD; (obtain ⟨hrc, hrg, hrf, hrs⟩ := hr); (simp [go_sem] at hD); go_simp; first | exact ⟨⟨hC, Ext.refl _⟩, rfl⟩ | exact ⟨⟨hC, RS.refl _⟩, rfl⟩ | exact rfl); simp only [List.nil_append, List.cons_append])
  refine tame_end 13 rfl rfl (fun ρ W hC hr hF => ?_)
  obtain ⟨hrc, hrg, hrf, hrs⟩ := hr
  simp [go_sem] at hF
  apply frame_to
  · go_simp
    exact rfl
  clear hF hrs hrc hrg hrf
  have HC := Lib.hid hC
  clear hC q0
  go_wp2
  go_ret
  exact ⟨by rw [HO.out]; rfl, HC.out⟩
end Go.Proofs.YtkpengeaolcjhaaGreatDoor
/- mill's best, Best, Even, Fit. -/
namespace Go.Proofs.YtkpengeaolcjhaaGreatDoor
open Go.RowKit Go.Shelf Go.Lib
set_option maxRecDepth 100000
set_option linter.unusedSimpArgs false

set_option maxHeartbeats 2000000 in
theorem bestK_any (lt : Nat) (size : Int) (l : List Rc) (A : Option Addr) (n c m nn : Nat) (w : World) (hm : Mok (mOf lt size l)) (hs : SlC w (.slice A n c) l) (hmp : MapB w m nn (fitTo l l.length)) :
    Calls Tryz.prog 66 #[valT (lt : Int) size (.slice A n c) m] w fun e w' => (∃ v, e = .returned (.tuple #[v, .bool (bestP (mOf lt size l)).isSome]) ∧ SlI w' v ((bestP (mOf lt size l)).getD [])) ∧ Ext w w' := by
  have hmf := hmf Tryz.prog
  have HS := Lib.hid hs; have HM := Lib.hid hm; have HMP := Lib.hid hmp
  have hl1 : 1 ≤ lt := by have h : 1 ≤ (lt : Int) := hm.l1; omega
  have hl3 : lt ≤ 3 := by have h : (lt : Int) ≤ 3 := hm.l3; omega
  have hs0 : 2 ≤ size := hm.s2
  have hs4 : size ≤ 4 := hm.s4
  have hn7 : l.length ≤ 7 := by have h := hm.n7; simp at h; exact h
  have HN := Lib.hid (show n = l.length by obtain ⟨A', c', e, -⟩ := hs; injection e)
  have HBO := Lib.hid (bestP_ord (mOf lt size l))
  clear hs hm hmp
  go_enter Tryz.func66, Tryz.ntmps66
  go_wp2_with fail
  obtain ⟨w2, hw2⟩ : ∃ w2, w2 = (w.alloc (.cells #[.int .i64 (lt : Int), .int .i64 size, .slice A n c, .map (some m)] 95)).alloc (.cells #[.func (.func 67) #[valT (lt : Int) size (.slice A n c) m] #[]] 118) := ⟨_, rfl⟩
  have E2 := Lib.hid (show Ext w w2 from hw2 ▸ (Ext.al _ _).alloc _)
  have HB := Lib.hid (show Blk w2 (w.heap.size + 1) 118 #[.func (.func 67) #[valT (lt : Int) size (.slice A n c) m] #[]] from hw2 ▸ Blk.at_ (by simp))
  rw [← hw2]
  clear hw2
  refine (plans_any lt size A n c m hl3 _).mono ?_
  rintro e w3 ⟨⟨bfu, F0, F1, F2, rfl, hF, hbf, hbt, hbu⟩, hE⟩
  have HE3 := Lib.hid (E2.out.trans hE)
  have HB3 := Lib.hid (HB.out.ext hE)
  have HBT := Lib.hid hbt; have HBU := Lib.hid hbu; have HF := Lib.hid hF
  have hbtl := hbt.lt
  have hbul := hbu.lt
  clear hE hF hbt hbu
  go_wp2_with fail
  have hms := HMP.out.lt
  have he3 := HE3.out.size
  have hfi := firstM_any (gf := 139) (tf := 104) (lb := #[.pointer (some ⟨w2.heap.size, 0, none⟩), .pointer (some ⟨bfu, 0, none⟩)]) (fi := #[]) (tlb := #[.pointer (some ⟨w.heap.size + 1, 0, none⟩)]) (enters_of Tryz.func139 (by kernel_rfl) rfl) (enters_of Tryz.func104 (by kernel_rfl) rfl)
    (xs := plansL (mOf lt size l)) (ord := ordP (mOf lt size l)) (w := w3) (fun w0 hE0 hz0 => plans_seqs (n := n) (c := c) (A := A) (m := m) (nn := nn) (l := l) hl1 hl3 (by omega) hs4 HN.out hn7 HF.out (fun b hb => by omega) (fun h => by omega) (fun h => by omega) (by omega) (by have := hE0.size; omega) (HBT.out.ext hE0) (HBU.out.ext hE0) (HMP.out.ext (HE3.out.trans hE0)))
    (fun x hx y hy v v' W hW hvx hvy => by
      have h1 := f104_any lt size l A n c m (w.heap.size + 1) x y v v' W HM.out (HS.out.ext (HE3.out.trans hW)) hvx hvy (pok_of HM.out hx) (pok_of HM.out hy) (((show Ext w3 W from hW).cells.1 _ _ HB3.out.lt).trans HB3.out.c1.1)
      simpa using h1)
  rw [HBO.out] at hfi
  have HFI := Lib.hid hfi
  clear hfi hms he3 hbtl hbul
  refine HFI.out.mono ?_
  rintro e w4 ⟨v, rfl, hv, hE⟩
  have HV := Lib.hid hv; have HE4 := Lib.hid (HE3.out.trans hE)
  obtain ⟨Av, nv, cv, rfl, -, -, -⟩ := HV.out.form
  clear hv hE
  go_wp2
  go_ret2
  exact ⟨⟨_, rfl, HV.out⟩, HE4.out⟩

def bestE (m : Mll) : Int := if checkM m then (if (bestP m).isSome then 0 else 92) else 90
def bestL (m : Mll) : List Int := if checkM m then (bestP m).getD [] else []
def evenU (m : Mll) : Int × Int := if checkM m then (match bestP m with | some p => unev m p | none => (0, 0)) else (0, 0)
theorem be_no {m : Mll} (h : checkM m = false) : bestE m = 90 ∧ bestL m = [] ∧ evenU m = (0, 0) := by unfold bestE bestL evenU; rw [h]; exact ⟨rfl, rfl, rfl⟩
theorem be_few {m : Mll} (h : checkM m = true) (h2 : bestP m = none) : bestE m = 92 ∧ bestL m = [] ∧ evenU m = (0, 0) := by unfold bestE bestL evenU; rw [h, h2]; exact ⟨rfl, rfl, rfl⟩
theorem be_ok {m : Mll} {p : List Int} (h : checkM m = true) (h2 : bestP m = some p) : bestE m = 0 ∧ bestL m = p ∧ evenU m = unev m p := by unfold bestE bestL evenU; rw [h, h2]; exact ⟨rfl, rfl, rfl⟩
/-- A valid mill's lots are a small number. -/
theorem lots_nat {lots size : Int} {l : List Rc} (hc : checkM (mOf lots size l) = true) : ∃ lt : Nat, lots = (lt : Int) := ⟨lots.toNat, by have h : 1 ≤ lots := (mok_of hc).l1; omega⟩
set_option maxHeartbeats 2000000 in
theorem bestM_any (lots size : Int) (l : List Rc) (sv : Value) (w : World) (hT : TabM w) (hs : MlC w sv l) (hlen : l.length ≤ 1000) :
    Calls Tryz.prog 25 #[valM lots size sv] w fun e w' => (∃ v, e = .returned (.tuple #[v, .int .i64 (bestE (mOf lots size l))]) ∧ SlI w' v (bestL (mOf lots size l))) ∧ Ext w w' := by
  have HS := Lib.hid hs; have HT := Lib.hid hT; have HLN := Lib.hid hlen
  obtain ⟨A, n, c, rfl, hn, hlc, hcm⟩ := hs.1.form
  clear hs hT hn hlen
  go_enter Tryz.func25, Tryz.ntmps25
  go_wp2_with fail
  refine (checkM_any lots size l _ _ (HT.out.ext (Ext.al _ _)) (HS.out.ext (Ext.al _ _)) HLN.out).mono ?_
  rintro e w1 ⟨rfl, hE⟩
  have HE1 := Lib.hid ((Ext.al w (.cells #[.int .i64 lots, .int .i64 size, .slice A n c] 24)).trans hE)
  have HB1 := Lib.hid ((Blk.new w 24 #[.int .i64 lots, .int .i64 size, .slice A n c]).ext hE)
  obtain ⟨b0, b1, b2, bf, bl⟩ := HB1.out.c3
  clear hE
  cases hc : checkM (mOf lots size l)
  · have HQ := Lib.hid (be_no hc)
    simp only [errB]
    clear hc
    go_wp2
    go_ret2
    exact ⟨⟨.slice none 0 0, by rw [HQ.out.1]; rfl, by rw [HQ.out.2.1]; exact Sl.nil _⟩, HE1.out⟩
  have hm := mok_of hc
  obtain ⟨lt, rfl⟩ := lots_nat hc
  have HC := Lib.hid hc; have HM := Lib.hid hm
  simp only [errB]
  clear hc hm
  go_wp2_with fail
  refine (laid_any lt size l _ _ (HT.out.1.ext HE1.out) (HS.out.ext HE1.out) HLN.out).mono ?_
  rintro e w2 ⟨⟨m, nn, rfl, -, -, hmp⟩, hE⟩
  have HE2 := Lib.hid (HE1.out.trans hE); have HMP := Lib.hid hmp
  clear hE hmp b0 b1 b2 bf bl
  go_wp2_with fail
  refine (bestK_any lt size l A n c m nn _ HM.out (HS.out.1.ext HE2.out) HMP.out).mono ?_
  rintro e w3 ⟨⟨v, rfl, hv⟩, hE⟩
  have HE3 := Lib.hid (HE2.out.trans hE); have HV := Lib.hid hv
  obtain ⟨Av, nv, cv, rfl, -, -, -⟩ := HV.out.form
  clear hE hv
  cases hb : bestP (mOf lt size l) with
  | none =>
    have HQ := Lib.hid (be_few HC.out hb)
    simp only [Option.isSome]
    clear hb
    go_wp2
    go_ret2
    exact ⟨⟨.slice none 0 0, by rw [HQ.out.1]; rfl, by rw [HQ.out.2.1]; exact Sl.nil _⟩, HE3.out⟩
  | some p =>
    have HQ := Lib.hid (be_ok HC.out hb)
    have HV2 := Lib.hid (show SlI w3 (.slice Av nv cv) p by have := HV.out; rw [hb] at this; exact this)
    simp only [Option.isSome]
    clear hb
    go_wp2
    go_ret2
    exact ⟨⟨.slice Av nv cv, by rw [HQ.out.1]; rfl, by rw [HQ.out.2.1]; exact HV2.out⟩, HE3.out⟩
set_option maxHeartbeats 2000000 in
theorem evenM_any (lots size : Int) (l : List Rc) (sv : Value) (w : World) (hT : TabM w) (hs : MlC w sv l) (hlen : l.length ≤ 1000) :
    Calls Tryz.prog 26 #[valM lots size sv] w fun e w' => e = .returned (.tuple #[.int .i64 (evenU (mOf lots size l)).1, .int .i64 (evenU (mOf lots size l)).2, .int .i64 (bestE (mOf lots size l))]) ∧ Ext w w' := by
  have HS := Lib.hid hs; have HT := Lib.hid hT; have HLN := Lib.hid hlen
  obtain ⟨A, n, c, rfl, hn, hlc, hcm⟩ := hs.1.form
  clear hs hT hn hlen
  go_enter Tryz.func26, Tryz.ntmps26
  go_wp2_with fail
  refine (bestM_any lots size l _ _ (HT.out.ext (Ext.al _ _)) (HS.out.ext (Ext.al _ _)) HLN.out).mono ?_
  rintro e w1 ⟨⟨v, rfl, hv⟩, hE⟩
  have HE1 := Lib.hid ((Ext.al w (.cells #[.int .i64 lots, .int .i64 size, .slice A n c] 24)).trans hE)
  have HB1 := Lib.hid ((Blk.new w 24 #[.int .i64 lots, .int .i64 size, .slice A n c]).ext hE)
  have HV := Lib.hid hv
  obtain ⟨Av, nv, cv, rfl, -, -, -⟩ := HV.out.form
  obtain ⟨b0, b1, b2, bf, bl⟩ := HB1.out.c3
  clear hE hv
  cases hc : checkM (mOf lots size l)
  · have HQ := Lib.hid (be_no hc)
    have hq : bestE (mOf lots size l) = 90 := HQ.out.1
    rw [hq]
    clear hc hq
    go_wp2
    refine bodyPost_ret (v := .tuple #[.int .i64 (evenU (mOf lots size l)).1, .int .i64 (evenU (mOf lots size l)).2, .int .i64 (bestE (mOf lots size l))]) (by rw [HQ.out.1, HQ.out.2.2]; simp [results, Tryz.results26, go_sem]) rfl ?_
    exact ⟨rfl, HE1.out⟩
  cases hb : bestP (mOf lots size l) with
  | none =>
    have HQ := Lib.hid (be_few hc hb)
    have hq : bestE (mOf lots size l) = 92 := HQ.out.1
    rw [hq]
    clear hc hb hq
    go_wp2
    refine bodyPost_ret (v := .tuple #[.int .i64 (evenU (mOf lots size l)).1, .int .i64 (evenU (mOf lots size l)).2, .int .i64 (bestE (mOf lots size l))]) (by rw [HQ.out.1, HQ.out.2.2]; simp [results, Tryz.results26, go_sem]) rfl ?_
    exact ⟨rfl, HE1.out⟩
  | some p =>
    have hm := mok_of hc
    obtain ⟨lt, rfl⟩ := lots_nat hc
    have HQ := Lib.hid (be_ok hc hb)
    have HM := Lib.hid hm
    have HPO := Lib.hid (pok_of hm (bestP_mem hb))
    have HV2 := Lib.hid (show SlI w1 (.slice Av nv cv) p by have := HV.out; rw [HQ.out.2.1] at this; exact this)
    have hq : bestE (mOf lt size l) = 0 := HQ.out.1
    rw [hq]
    clear hc hb hq hm
    go_wp2_with fail
    refine (of_any lt size l p _ _ none _ HM.out (HS.out.1.ext HE1.out) HV2.out HPO.out).mono ?_
    rintro e w2 ⟨rfl, hE⟩
    have HE2 := Lib.hid (HE1.out.trans hE)
    clear hE b0 b1 b2 bf bl
    obtain ⟨u, hu⟩ : ∃ u, unev (mOf lt size l) p = u := ⟨_, rfl⟩
    rw [hu]
    have HU := Lib.hid hu
    clear hu
    go_wp2
    obtain ⟨w4, hw4⟩ : ∃ w4, w4 = w2.alloc (.cells #[.int .i64 u.1, .int .i64 u.2] 106) := ⟨_, rfl⟩
    rw [← hw4]
    have E4 := Lib.hid (show Ext w w4 from hw4 ▸ HE2.out.alloc _)
    have HB4 := Lib.hid (show Blk w4 w2.heap.size 106 #[.int .i64 u.1, .int .i64 u.2] from hw4 ▸ Blk.new _ _ _)
    clear hw4
    have q0 := fun V (h : Ext w4 V) => (HB4.out.ext h).c2.1
    have q1 := fun V (h : Ext w4 V) => (HB4.out.ext h).c2.2.1
    refine wp_region_tame (fun W => Ext w4 W) (fun W W' => Ext W W') (by kernel_rfl) 23 rfl (by decide +kernel) (Ext.refl _).drew ?_
    repeat (apply tame_q rfl; (intro ρ W hC hr hD; (obtain ⟨hrc, hrg, hrf, hrs⟩ := hr); (simp [go_sem] at hD); go_simp; first | exact ⟨⟨hC, Ext.refl _⟩, rfl⟩ | exact ⟨⟨hC, RS.refl _⟩, rfl⟩ | exact rfl); simp only [List.nil_append, List.cons_append])
    refine tame_end 23 rfl rfl (fun ρ W hC hr hF => ?_)
    obtain ⟨hrc, hrg, hrf, hrs⟩ := hr
    simp [go_sem] at hF
    apply frame_to
    · go_simp
      exact rfl
    clear hF hrs hrc hrg hrf
    have HC := Lib.hid (E4.out.trans hC)
    clear hC q0 q1
    go_wp2
    refine bodyPost_ret (v := .tuple #[.int .i64 (evenU (mOf lt size l)).1, .int .i64 (evenU (mOf lt size l)).2, .int .i64 (bestE (mOf lt size l))]) (by rw [HQ.out.1, HQ.out.2.2, HU.out]; simp [results, Tryz.results26, go_sem]) rfl ?_
    exact ⟨rfl, HC.out⟩
end Go.Proofs.YtkpengeaolcjhaaGreatDoor
