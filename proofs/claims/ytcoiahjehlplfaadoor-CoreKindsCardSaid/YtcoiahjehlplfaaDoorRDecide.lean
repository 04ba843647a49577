/- The reference's Before and decided. -/
import Derived.Test.YtcoiahjehlplfaaDoorDecLaw
import Derived.Test.YtcoiahjehlplfaaDoorCoreN
import Derived.Test.YtcoiahjehlplfaaDoorAskLaw
namespace Go.Proofs.YtcoiahjehlplfaaDoor
open Go.RowKit Go.Shelf Go.Lib
set_option maxRecDepth 100000
set_option linter.unusedSimpArgs false

theorem before_any (l l' : List Int) (v v' : Value) (w : World) (h : SlI w v l) (h' : SlI w v' l') :
    Calls Tryd.prog 82 #[v, v'] w fun e w' => e = .returned (.bool (beforeL l l')) ∧ Ext w w' := by
  have HA := Lib.hid h
  have HB := Lib.hid h'
  obtain ⟨A, n, cp, rfl, hn, hlc, hcm⟩ := h.form
  obtain ⟨A2, n2, cp2, rfl, hn2, hlc2, hcm2⟩ := h'.form
  clear h h'
  go_enter Tryd.func82, Tryd.ntmps82
  by_cases hne : n = n2
  · subst hne
    have HL := Lib.hid (show beforeL l l' = lexL (l.drop 0) (l'.drop 0) by unfold beforeL; rw [if_neg (by have := hn.out; have := hn2.out; omega)]; rfl)
    go_wp2
    go_loopg [5] n (fun gg s wr => ∃ (k : Nat), k ≤ n ∧ n - k ≤ gg ∧ s = .int .i64 k ∧ Aside (beforeL l l' = lexL (l.drop k) (l'.drop k)) ∧ Aside (Ext w wr))
    case atStart => exact ⟨0, by omega, by omega, rfl, HL.out, Ext.refl _⟩
    case round =>
      obtain ⟨k, hk, hg, rfl, LW, EW⟩ := hrel
      by_cases hlt : k < n
      · have hjz : (k : Int) < (n : Int) := by omega
        obtain ⟨bb, off, x, rfl, hx, hb, hcell⟩ := HA.out.at_ hlt
        obtain ⟨bb', off', x', rfl, hx', hb', hcell'⟩ := HB.out.at_ hlt
        have c0 := fun W (h : Ext wr W) => SlI.cell hcell (EW.out.trans h)
        have c1 := fun W (h : Ext wr W) => SlI.cell hcell' (EW.out.trans h)
        have HD := Lib.hid (show beforeL l l' = if x ≠ x' then decide (x < x') else lexL (l.drop (k + 1)) (l'.drop (k + 1)) by rw [LW.out, drop_at hx, drop_at hx']; rfl)
        clear hx hx' hcell hcell'
        by_cases hxx : x = x'
        · subst hxx
          have HD2 := Lib.hid (show beforeL l l' = lexL (l.drop (k + 1)) (l'.drop (k + 1)) by rw [HD.out, if_neg (by simp)])
          go_wp2
          refine wp_region_tame (fun W => Ext wr W) (fun W W' => Ext W W') (by kernel_rfl) 40 rfl (by decide +kernel) (Ext.refl _).drew ?_
          repeat (apply tame_q rfl; (intro ρ W hC hr hD; (obtain ⟨hrc, hrg, hrf, hrs⟩ := hr); (simp [go_sem] at hD); go_simp; first | exact ⟨⟨hC, Ext.refl _⟩, rfl⟩ | exact ⟨⟨hC, RS.refl _⟩, rfl⟩ | exact rfl); simp only [List.nil_append, List.cons_append])
          refine tame_end 40 rfl rfl (fun ρ W hC hr hF => ?_)
          obtain ⟨hrc, hrg, hrf, hrs⟩ := hr
          simp [go_sem] at hF
          apply frame_to
          · go_simp
            exact rfl
          clear hF hrs hrc hrg hrf
          have HC := Lib.hid hC; clear hC
          go_wp2
          go_roundg (n - (k + 1))
          case measure => omega
          case rel => exact ⟨k + 1, by omega, by omega, rfl, HD2.out, EW.out.trans HC.out⟩
        · have HD2 := Lib.hid (show beforeL l l' = decide (x < x') by rw [HD.out, if_pos hxx])
          have hxb : (x != x') = true := by simpa using hxx
          go_wp2
          refine wp_region_tame (fun W => Ext wr W) (fun W W' => Ext W W') (by kernel_rfl) 40 rfl (by decide +kernel) (Ext.refl _).drew ?_
          repeat (apply tame_q rfl; (intro ρ W hC hr hD; (obtain ⟨hrc, hrg, hrf, hrs⟩ := hr); (simp [go_sem] at hD); go_simp; first | exact ⟨⟨hC, Ext.refl _⟩, rfl⟩ | exact ⟨⟨hC, RS.refl _⟩, rfl⟩ | exact rfl); simp only [List.nil_append, List.cons_append])
          refine tame_end 40 rfl rfl (fun ρ W hC hr hF => ?_)
          obtain ⟨hrc, hrg, hrf, hrs⟩ := hr
          simp [go_sem] at hF
          apply frame_to
          · go_simp
            exact rfl
          clear hF hrs hrc hrg hrf
          have d0 := fun W' (h : Ext W W') => c0 W' (hC.trans h)
          have d1 := fun W' (h : Ext W W') => c1 W' (hC.trans h)
          have HC := Lib.hid hC; clear hC c0 c1
          go_wp2
          refine wp_region_tame (fun W' => Ext W W') (fun W W' => Ext W W') (by kernel_rfl) 40 rfl (by decide +kernel) (Ext.refl _).drew ?_
          repeat (apply tame_q rfl; (intro ρ W hC hr hD; (obtain ⟨hrc, hrg, hrf, hrs⟩ := hr); (simp [go_sem] at hD); go_simp; first | exact ⟨⟨hC, Ext.refl _⟩, rfl⟩ | exact ⟨⟨hC, RS.refl _⟩, rfl⟩ | exact rfl); simp only [List.nil_append, List.cons_append])
          refine tame_end 40 rfl rfl (fun ρ W' hC hr hF => ?_)
          obtain ⟨hrc, hrg, hrf, hrs⟩ := hr
          simp [go_sem] at hF
          apply frame_to
          · go_simp
            exact rfl
          clear hF hrs hrc hrg hrf
          have HC2 := Lib.hid hC; clear hC
          go_wp2
          go_ret
          exact ⟨by rw [HD2.out]; rfl, (EW.out.trans HC.out).trans HC2.out⟩
      · have HD := Lib.hid (show beforeL l l' = false by rw [LW.out, List.drop_eq_nil_of_le (by have := hn.out; omega)]; rfl)
        go_wp2
        go_ret
        exact ⟨by rw [HD.out]; rfl, EW.out⟩
  · have HL := Lib.hid (show beforeL l l' = decide (n < n2) by
      unfold beforeL
      have h1 := hn.out; have h2 := hn2.out
      rw [if_pos (by omega), ← h1, ← h2])
    have hnb : ((n : Int) != (n2 : Int)) = true := by simp; omega
    go_wp2
    go_ret
    exact ⟨by rw [HL.out]; rfl, Ext.refl _⟩
end Go.Proofs.YtcoiahjehlplfaaDoor
/- The reference's decided and Decide. -/
namespace Go.Proofs.YtcoiahjehlplfaaDoor
open Go.RowKit Go.Shelf Go.Lib
set_option maxRecDepth 100000
set_option linter.unusedSimpArgs false

theorem sl_max {W : World} {A : Option Addr} {n c : Nat} {l : List Int} (h : SlI W (.slice A n c) l) : (n : Int) ≤ 9223372036854775807 := by
  obtain ⟨A', n', c', h1, -, h2, h3⟩ := h.form
  injection h1 with _ h1 h4
  omega
theorem decR_cons {sp : List Span} {i : Nat} {x : Span} (hx : sp[i]? = some x) (r : List Int) : decR sp ((i : Int) :: r) = (rangeS x).all fun n => decR (sp.set i ⟨n, n⟩) r := by
  rw [decR]
  simp only [Int.toNat_natCast, hx]
theorem all_rangeS {x : Span} {f : Int → Bool} (h : ∀ q : Nat, q < (x.hi - x.lo + 1).toNat → f (x.lo + (q : Int)) = true) : (rangeS x).all f = true := by
  rw [List.all_eq_true]
  intro n hn
  have hn := (rangeS_mem x n).1 hn
  have := h (n - x.lo).toNat (by omega)
  rwa [show x.lo + (((n - x.lo).toNat : Nat) : Int) = n by omega] at this
theorem not_all_rangeS {x : Span} {f : Int → Bool} {q : Nat} (hq : q < (x.hi - x.lo + 1).toNat) (h : f (x.lo + (q : Int)) = false) : (rangeS x).all f = false := by
  cases ha : (rangeS x).all f with
  | false => rfl
  | true =>
    rw [List.all_eq_true] at ha
    have := ha (x.lo + (q : Int)) ((rangeS_mem x _).2 (by omega))
    rw [this] at h
    cases h

set_option maxHeartbeats 2000000 in
theorem decided_any {l : List Int} {A : Option Addr} {n c : Nat} : ∀ (k fr : Nat) (sp : List Span) (bb off cs : Nat) (w : World), fr + k = l.length → sp.length ≤ 5 → 0 < sp.length → (∀ x ∈ sp, 1 ≤ x.lo ∧ x.lo ≤ 1000 ∧ x.hi ≤ 9) →
    SlS w (.slice (some ⟨bb, off, none⟩) sp.length cs) sp → SlI w (.slice A n c) l → (∀ i ∈ l, 0 ≤ i ∧ i < (sp.length : Int)) →
    Calls Tryd.prog 83 #[.slice (some ⟨bb, off, none⟩) sp.length cs, .slice A n c, .int .i64 (fr : Int)] w fun e w' => e = .returned (.bool (decR sp (l.drop fr))) ∧ Ext w w' := by
  intro k
  induction k with
  | zero =>
    intro fr sp bb off cs w hfr h5 h0 hbd hs hl hb
    have hnl : n = l.length := by obtain ⟨_, _, h, _⟩ := hl; injection h
    have hfn : (fr : Int) = (n : Int) := by omega
    have HM := Lib.hid (many_any w (by omega) h0 hbd hs)
    have HD := Lib.hid (show decR sp (l.drop fr) = ((rk S4.none (exts [] (zOf sp))).num == 1) by rw [List.drop_eq_nil_of_le (by omega), decR])
    rw [hfn]
    clear hs hl hb hbd hnl hfr hfn
    go_enter Tryd.func83, Tryd.ntmps83
    go_wp2_with fail
    refine HM.out.mono ?_
    rintro e w1 ⟨rfl, hE⟩
    have HE := Lib.hid hE
    generalize rk S4.none (exts [] (zOf sp)) = s at *
    clear hE
    dsimp only [flagsV]
    go_wp2
    go_ret
    exact ⟨ret_bool (show ((s.num : Int) == 1) = _ by rw [HD.out, Bool.eq_iff_iff]; simp; omega), HE.out.alloc _⟩
  | succ k ih =>
    intro fr sp bb off cs w hfr h5 h0 hbd hs hl hb
    have hnl : n = l.length := by obtain ⟨_, _, h, _⟩ := hl; injection h
    have hfn : fr < n := by omega
    have hfz : (fr : Int) < (n : Int) := by omega
    have hne : ¬ ((fr : Int) = (n : Int)) := by omega
    obtain ⟨bl, ol, i, rfl, hi, hbl, hic⟩ := hl.at_ hfn
    obtain ⟨hi0, hi1⟩ := hb i (List.mem_of_getElem? hi)
    obtain ⟨i', rfl⟩ : ∃ i' : Nat, i = (i' : Int) := ⟨i.toNat, by omega⟩
    have hin : i' < sp.length := by omega
    obtain ⟨b', o', x, e1, hx, hbx, hxc⟩ := hs.at_ hin
    injection e1 with e1
    injection e1 with e1 e2
    subst e1 e2
    have HD := Lib.hid (show decR sp (l.drop fr) = (rangeS x).all fun m => decR (sp.set i' ⟨m, m⟩) (l.drop (fr + 1)) by rw [drop_at hi, decR_cons hx])
    have hxb := hbd x (List.mem_of_getElem? hx)
    have HS := Lib.hid hs; have HL := Lib.hid hl; have HB := Lib.hid hb; have HBD := Lib.hid hbd; have IH := Lib.hid ih; have HIC := Lib.hid hic; have HXC := Lib.hid hxc
    have HFR := Lib.hid hfr; have H5 := Lib.hid h5; have H0 := Lib.hid h0
    have c0 := SlI.cell hic (Ext.refl w)
    obtain ⟨c1, c2⟩ := SlS.cells hxc (Ext.refl w)
    generalize hN : (x.hi - x.lo + 1).toNat = N at *
    clear hs hl hb hbd ih hic hxc hx hi hfr h5 h0 hnl
    go_enter Tryd.func83, Tryd.ntmps83
    go_wp2
    clear c0 c1 c2
    go_loopg [9] N (fun gg s9 wr => ∃ q : Nat, q ≤ N ∧ N - q ≤ gg ∧ s9 = .int .i64 (x.lo + (q : Int)) ∧ Aside (∀ q' : Nat, q' < q → decR (sp.set i' ⟨x.lo + (q' : Int), x.lo + (q' : Int)⟩) (l.drop (fr + 1)) = true) ∧ Aside (Ext w wr))
    case atStart => exact ⟨0, by omega, by omega, by simp, fun q' h => absurd h (by omega), Ext.refl _⟩
    case round =>
      obtain ⟨q, hq, hgg, rfl, HQ, EX⟩ := hrel
      have c0 := SlI.cell HIC.out EX.out
      obtain ⟨c1, c2⟩ := SlS.cells HXC.out EX.out
      by_cases hqN : q < N
      · have hle : x.lo + (q : Int) ≤ x.hi := by omega
        go_wp2_with fail
        refine (pinned_any i' (x.lo + (q : Int)) _ _ hin (by have := H5.out; omega) (HS.out.ext EX.out)).mono ?_
        rintro e w5 ⟨b', o', c', rfl, hsl5, hE5⟩
        have EX5 := Lib.hid (EX.out.trans hE5)
        have hlen : (sp.set i' ⟨x.lo + (q : Int), x.lo + (q : Int)⟩).length = sp.length := List.length_set
        have H := IH.out (fr + 1) (sp.set i' ⟨x.lo + (q : Int), x.lo + (q : Int)⟩) b' o' c' w5 (by have := HFR.out; omega) (by rw [hlen]; exact H5.out) (by rw [hlen]; exact H0.out) (fun y hy => by
          rcases List.mem_or_eq_of_mem_set hy with hy | rfl
          · exact HBD.out y hy
          · dsimp only; omega) (by rw [hlen]; exact hsl5) (HL.out.ext EX5.out) (by rw [hlen]; exact HB.out)
        rw [hlen, show (((fr + 1 : Nat) : Int)) = (fr : Int) + 1 by omega] at H
        have HH := Lib.hid H; clear H hsl5 hE5 c0 c1 c2 hlen
        have hfb := sl_max HL.out
        go_wp2_with fail
        refine HH.out.mono ?_
        rintro e w6 ⟨rfl, hE6⟩
        have EX6 := Lib.hid (EX5.out.trans hE6)
        clear HH hE6
        cases hdq : decR (sp.set i' ⟨x.lo + (q : Int), x.lo + (q : Int)⟩) (l.drop (fr + 1)) with
        | true =>
          have HQ2 := Lib.hid (show ∀ q' : Nat, q' < q + 1 → decR (sp.set i' ⟨x.lo + (q' : Int), x.lo + (q' : Int)⟩) (l.drop (fr + 1)) = true from fun q' h => by
            by_cases he : q' = q
            · rw [he]; exact hdq
            · exact HQ.out q' (by omega))
          go_wp2
          go_roundg (N - (q + 1))
          case measure => omega
          case rel => exact ⟨q + 1, by omega, by omega, by simp; omega, HQ2.out, EX6.out⟩
        | false =>
          have HF := Lib.hid (show decR sp (l.drop fr) = false by rw [HD.out]; exact not_all_rangeS (q := q) (by omega) hdq)
          go_wp2
          go_ret
          exact ⟨by rw [HF.out]; rfl, EX6.out⟩
      · have hgt : x.hi < x.lo + (q : Int) := by omega
        have HF := Lib.hid (show decR sp (l.drop fr) = true by rw [HD.out]; exact all_rangeS fun q' h => HQ.out q' (by omega))
        go_wp2
        go_ret
        exact ⟨by rw [HF.out]; rfl, EX.out⟩

def setTo (j i : Nat) : List Int := ((List.range i).filter fun i => j / 2 ^ i % 2 == 1).map fun (i : Nat) => (i : Int)
theorem setTo_succ (j i : Nat) : setTo j (i + 1) = setTo j i ++ (if j / 2 ^ i % 2 == 1 then [(i : Int)] else []) := by
  unfold setTo
  rw [List.range_succ, List.filter_append, List.map_append]
  congr 1
  simp only [List.filter_cons, List.filter_nil]
  split <;> rfl
theorem setTo_len (j i : Nat) : (setTo j i).length ≤ i := by
  unfold setTo
  rw [List.length_map]
  refine Nat.le_trans (List.length_filter_le _ _) ?_
  simp
theorem setTo_mem {j i : Nat} {x : Int} (h : x ∈ setTo j i) : 0 ≤ x ∧ x < (i : Int) := by
  unfold setTo at h
  simp only [List.mem_map, List.mem_filter, List.mem_range] at h
  obtain ⟨k, ⟨hk, _⟩, rfl⟩ := h
  omega
theorem pow_wrap {n : Nat} (h : n ≤ 5) : wrap64 ((2 : Int) ^ n) = ((2 ^ n : Nat) : Int) ∧ 2 ^ n ≤ 32 := by
  obtain rfl | rfl | rfl | rfl | rfl | rfl : n = 0 ∨ n = 1 ∨ n = 2 ∨ n = 3 ∨ n = 4 ∨ n = 5 := by omega
  all_goals exact ⟨by decide +kernel, by decide⟩
theorem bit_and : ∀ j : Nat, j < 32 → ∀ i : Nat, i < 5 → bits BinOp.and IntKind.i64 ((j : Int) / (2 : Int) ^ i) 1 = ((j / 2 ^ i % 2 : Nat) : Int) := by decide +kernel
def rdecB (b : Bale) : List Int := if askE b true 0 = 0 then (pickL (decR (spans b)) (setsL (spans b).length)).1 else []

set_option maxHeartbeats 4000000 in
theorem refDecide_any (b : Bale) (dv wv : Value) (w : World) (hd : SlD w dv b.draws) (hw : SlW w wv b.weighs) :
    Calls Tryd.prog 37 #[valB b dv wv] w fun e w' => ∃ v, e = .returned (.tuple #[v, .int .i64 (askE b true 0)]) ∧ SlI w' v (rdecB b) ∧ Ext w w' := by
  have HD := Lib.hid hd
  have HW := Lib.hid hw
  obtain ⟨A, n, cp, rfl, hn, hlc, hcm⟩ := hd.form
  obtain ⟨A2, n2, cp2, rfl, hn2, hlc2, hcm2⟩ := hw.form
  clear hd hw
  go_enter Tryd.func37, Tryd.ntmps37
  go_wp2_with fail
  refine (refAsked_any b _ _ _ (HD.out.ext (Ext.al _ _)) (HW.out.ext (Ext.al _ _))).mono ?_
  rintro e w2 ⟨sv, lv, rfl, hsl, hE2⟩
  have HE2 := Lib.hid ((Ext.al w _).trans hE2)
  clear hE2
  by_cases hz9 : askE b true 0 = 0
  · obtain ⟨hs, hl⟩ := hsl hz9
    obtain ⟨h1, h3⟩ : valid b = true ∧ okB b = true := by
      unfold askE at hz9
      split at hz9
      · simp at hz9; exact ⟨by assumption, hz9⟩
      · cases hz9
    have hb5 := valid_bds h1
    obtain ⟨Al, nl, cl, rfl, hnl, hlc', hlm⟩ := hl.form
    have hln := spans_len b
    have hl0 : 0 < (spans b).length := by have := hb5.l1; omega
    have hl5 : (spans b).length ≤ 5 := by have := hb5.l5; omega
    obtain ⟨As, cs, rfl, hsc, hsm, hcx⟩ := id hs
    obtain ⟨bs, os, rfl, hbs, -⟩ := hcx hl0
    have HBD := Lib.hid (show ∀ x ∈ spans b, 1 ≤ x.lo ∧ x.lo ≤ 9 ∧ x.hi ≤ 9 ∧ 1 ≤ x.hi from fun x hx => spans_bd h1 x hx)
    have HK := Lib.hid (show rdecB b = (pickL (decR (spans b)) (setsL (spans b).length)).1 by unfold rdecB; rw [if_pos hz9])
    have HZ := Lib.hid hz9
    have HS := Lib.hid hs
    have HL5 := Lib.hid hl5; have HL0 := Lib.hid hl0
    generalize hsp : spans b = sp at *
    rw [hz9]
    clear hz9 hs hl hsl hsc hsm hcx hb5 h1 h3 hsp hln hl0 hbs
    obtain ⟨hP, hP2⟩ := pow_wrap hl5
    generalize hMM : 2 ^ sp.length = M at hP hP2
    have HM := Lib.hid hMM; clear hMM
    go_wp2
    go_loopg [7, 8, 9, 10, 11] M (fun gg s7 s8 s9 _ _ wr => ∃ (j : Nat), j ≤ M ∧ M - j ≤ gg ∧ s9 = .int .i64 (j : Int) ∧ s8 = .bool (pickL (decR sp) ((List.range j).map (setOf sp.length))).2 ∧ Aside (SlI wr s7 (pickL (decR sp) ((List.range j).map (setOf sp.length))).1) ∧ Aside (Ext w2 wr))
    case atStart => exact ⟨0, by omega, by omega, rfl, rfl, Sl.nil _, Ext.refl _⟩
    case round =>
      obtain ⟨j, hj, hgg, rfl, rfl, SV, EX⟩ := hrel
      by_cases hjn : j < M
      · have hjz : (j : Int) < (M : Int) := by omega
        obtain ⟨wo, hwo⟩ : ∃ wo : World, wo = wr := ⟨_, rfl⟩
        subst hwo
        go_wp2_with fail
        simp only [hP]
        go_loopg [10, 11] sp.length (fun gg s10 s11 wr => ∃ (i : Nat), i ≤ sp.length ∧ sp.length - i ≤ gg ∧ s11 = .int .i64 (i : Int) ∧ Aside (Own encI 3 1 wr wo.heap.size s10 (setTo j i)) ∧ Aside (Ext wo wr))
        case atStart => exact ⟨0, by omega, by omega, rfl, Own.nil _ _, Ext.refl _⟩
        case round =>
          obtain ⟨i, hi, hgi, rfl, OV, EX2⟩ := hrel
          by_cases hin : i < sp.length
          · have hiz : (i : Int) < (sp.length : Int) := by omega
            have hba := bit_and j (by omega) i (by omega)
            cases hbit : (j / 2 ^ i % 2 == 1) with
            | true =>
              have hb1 : bits BinOp.and IntKind.i64 ((j : Int) / (2 : Int) ^ i) 1 = 1 := by rw [hba]; simp at hbit; omega
              have HTS := Lib.hid (show setTo j (i + 1) = setTo j i ++ [(i : Int)] by rw [setTo_succ, hbit]; rfl)
              have HTL := Lib.hid (show (setTo j i).length < 100000000000 by have := setTo_len j i; omega)
              clear hba hbit
              go_wp2_with (at_builtin; refine wpList_app encI 56 3 1 _ 8 Tryd.underlying56 info3x rfl (by decide) (by decide) (fun _ => rfl) encI_one rfl (.tmp 39) (.tmp 41) rfl wo.heap.size _ (setTo j i) rfl (OV.out.alloc _) wr.heap.size 1 (i : Int) rfl (cells1 (by simp [go_sem])) HTL.out (by have := EX2.out.size; simp; omega) ?_)
              intro g cap w' hown hg2 hbel _
              have HO := Lib.hid hown
              have HE := Lib.hid (show Ext wo w' from Below.trans (EX2.out.alloc _) hbel)
              clear hown hg2 hbel
              go_wp2
              go_roundg (sp.length - (i + 1))
              case measure => omega
              case rel => exact ⟨i + 1, by omega, by omega, by simp, by rw [HTS.out]; exact HO.out, HE.out⟩
            | false =>
              have hb1 : bits BinOp.and IntKind.i64 ((j : Int) / (2 : Int) ^ i) 1 = 0 := by rw [hba]; simp at hbit; omega
              have HTS := Lib.hid (show setTo j (i + 1) = setTo j i by rw [setTo_succ, hbit]; simp)
              clear hba hbit
              go_wp2
              go_roundg (sp.length - (i + 1))
              case measure => omega
              case rel => exact ⟨i + 1, by omega, by omega, by simp, by rw [HTS.out]; exact OV.out, EX2.out⟩
          · have hie : i = sp.length := by omega
            subst hie
            have HPS := Lib.hid (show pickL (decR sp) ((List.range (j + 1)).map (setOf sp.length)) = pickStep (decR sp) (pickL (decR sp) ((List.range j).map (setOf sp.length))) (setTo j sp.length) by
              rw [List.range_succ, List.map_append]; exact pickL_snoc _ _ _)
            generalize pickL (decR sp) ((List.range j).map (setOf sp.length)) = ps at *
            obtain ⟨best, found⟩ := ps
            have hsl : SlI wr u10 (setTo j sp.length) := Own.sl (enc := encI) (fun _ => rfl) OV.out
            obtain ⟨Av, nv, cv, rfl, hnv, -, -⟩ := hsl.form
            have HSL := Lib.hid hsl
            have HBE0 := Lib.hid (show SlI wr u7 best from SV.out.ext EX2.out)
            have EXQ := Lib.hid (EX.out.trans EX2.out)
            clear hsl OV hnv
            dsimp only
            cases found with
            | false =>
              go_wp2_with fail
              refine (decided_any (l := setTo j sp.length) (setTo j sp.length).length 0 sp bs os cs _ (by omega) HL5.out HL0.out (fun y hy => by have := HBD.out y hy; omega) (HS.out.ext EXQ.out) HSL.out (fun i hi => setTo_mem hi)).mono ?_
              rintro e w5 ⟨rfl, hE5⟩
              have EXX := Lib.hid (EXQ.out.trans hE5)
              have HSV := Lib.hid (HSL.out.ext hE5); have HBE := Lib.hid (HBE0.out.ext hE5)
              clear hE5
              rw [List.drop_zero]
              cases hdq : decR sp (setTo j sp.length) with
              | true =>
                have HST := Lib.hid (show pickL (decR sp) ((List.range (j + 1)).map (setOf sp.length)) = (setTo j sp.length, true) by
                  rw [HPS.out]; unfold pickStep; rw [if_pos (by rw [hdq]; simp)])
                go_wp2
                go_roundg (M - (j + 1))
                case measure => omega
                case rel => exact ⟨j + 1, by omega, by omega, by simp, by rw [HST.out], by rw [HST.out]; exact HSV.out, EXX.out⟩
              | false =>
                have HST := Lib.hid (show pickL (decR sp) ((List.range (j + 1)).map (setOf sp.length)) = (best, false) by
                  rw [HPS.out]; unfold pickStep; rw [if_neg (by rw [hdq]; simp)])
                go_wp2
                go_roundg (M - (j + 1))
                case measure => omega
                case rel => exact ⟨j + 1, by omega, by omega, by simp, by rw [HST.out], by rw [HST.out]; exact HBE.out, EXX.out⟩
            | true =>
              go_wp2_with fail
              refine (before_any (setTo j sp.length) best _ _ _ HSL.out HBE0.out).mono ?_
              rintro e w4 ⟨rfl, hE4⟩
              have EX4 := Lib.hid (EXQ.out.trans hE4)
              have HSL4 := Lib.hid (HSL.out.ext hE4); have HBE4 := Lib.hid (HBE0.out.ext hE4)
              clear hE4
              cases hbv : beforeL (setTo j sp.length) best with
              | false =>
                have HST := Lib.hid (show pickL (decR sp) ((List.range (j + 1)).map (setOf sp.length)) = (best, true) by
                  rw [HPS.out]; unfold pickStep; rw [if_neg (by rw [hbv]; simp)])
                go_wp2
                go_roundg (M - (j + 1))
                case measure => omega
                case rel => exact ⟨j + 1, by omega, by omega, by simp, by rw [HST.out], by rw [HST.out]; exact HBE4.out, EX4.out⟩
              | true =>
                go_wp2_with fail
                refine (decided_any (l := setTo j sp.length) (setTo j sp.length).length 0 sp bs os cs _ (by omega) HL5.out HL0.out (fun y hy => by have := HBD.out y hy; omega) (HS.out.ext EX4.out) HSL4.out (fun i hi => setTo_mem hi)).mono ?_
                rintro e w5 ⟨rfl, hE5⟩
                have EXX := Lib.hid (EX4.out.trans hE5)
                have HSV := Lib.hid (HSL4.out.ext hE5); have HBE := Lib.hid (HBE4.out.ext hE5)
                clear hE5
                rw [List.drop_zero]
                cases hdq : decR sp (setTo j sp.length) with
                | true =>
                  have HST := Lib.hid (show pickL (decR sp) ((List.range (j + 1)).map (setOf sp.length)) = (setTo j sp.length, true) by
                    rw [HPS.out]; unfold pickStep; rw [if_pos (by rw [hdq]; simp [hbv])])
                  go_wp2
                  go_roundg (M - (j + 1))
                  case measure => omega
                  case rel => exact ⟨j + 1, by omega, by omega, by simp, by rw [HST.out], by rw [HST.out]; exact HSV.out, EXX.out⟩
                | false =>
                  have HST := Lib.hid (show pickL (decR sp) ((List.range (j + 1)).map (setOf sp.length)) = (best, true) by
                    rw [HPS.out]; unfold pickStep; rw [if_neg (by rw [hdq]; simp)])
                  go_wp2
                  go_roundg (M - (j + 1))
                  case measure => omega
                  case rel => exact ⟨j + 1, by omega, by omega, by simp, by rw [HST.out], by rw [HST.out]; exact HBE.out, EXX.out⟩
      · have HQ := Lib.hid (show rdecB b = (pickL (decR sp) ((List.range j).map (setOf sp.length))).1 by rw [HK.out]; unfold setsL; rw [HM.out, show j = M by omega])
        go_wp2
        refine bodyPost_ret (v := .tuple #[u7, .int .i64 0]) (by simp [results, Tryd.results37, go_sem]) rfl ?_
        exact ⟨_, by rw [HZ.out], by rw [HQ.out]; exact SV.out, HE2.out.trans EX.out⟩
  · have HK := Lib.hid (show rdecB b = [] by unfold rdecB; rw [if_neg hz9])
    generalize hE9 : askE b true 0 = E at hz9
    have HE9 := Lib.hid hE9; clear hE9 hsl
    go_wp2
    refine bodyPost_ret (v := .tuple #[.slice none 0 0, .int .i64 E]) (by simp [results, Tryd.results37, go_sem]) rfl ?_
    exact ⟨_, by rw [HE9.out], by rw [HK.out]; exact Sl.nil _, HE2.out⟩
end Go.Proofs.YtcoiahjehlplfaaDoor
