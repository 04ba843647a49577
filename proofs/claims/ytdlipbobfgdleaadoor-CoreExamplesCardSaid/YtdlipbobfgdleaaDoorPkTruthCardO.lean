/- core.cuts once more: its list lies in new memory. -/
import Derived.Test.YtdlipbobfgdleaaDoorPkTruthCardB
import Derived.Test.YtdlipbobfgdleaaDoorPkTruthCardN
import Derived.Test.YtdlipbobfgdleaaDoorPkTruthCardM
import Derived.Test.YtdlipbobfgdleaaDoorPkTruthCardD
import Derived.LoopIn
namespace Go.Proofs.YtdlipbobfgdleaaDoor
open Go.RowKit Go.Shelf
set_option maxRecDepth 100000
set_option linter.unusedSimpArgs false

set_option maxHeartbeats 1000000 in
theorem cutsOwn_any (l : List Int) (v : Value) (w : World) (hs : SlI w v l) (h0 : 0 < l.length) (hlen : l.length ≤ 1000) (hb : Small l) :
    Calls Tryd.prog 98 #[v] w fun e w' => ∃ v', e = .returned v' ∧ Own encI 3 1 w' w.heap.size v' (cutsL l) ∧ Ext w w' := by
  have HS := Lib.hid hs
  obtain ⟨A, n, c, rfl, hn, hlc, hcm⟩ := hs.form
  have hn0 : 0 < n := by have := hn.out; omega
  obtain ⟨b, off, x, rfl, -, -, -⟩ := hs.at_ hn0
  have hn1000 : n ≤ 1000 := by have := hn.out; omega
  have HB := Lib.hid hb; have H0 := Lib.hid h0
  clear hs hb h0 hlen
  have hcm' : c ≤ maxLen := hcm
  go_enter Tryd.func98, Tryd.ntmps98
  go_wp2
  cases hal : alikeL l with
  | true =>
    have HAL := Lib.hid hal
    clear hal
    go_loopg [3, 4] 1 (fun gg s3 s4 wr => s4 = .int .i64 1 ∧ s3 = .slice none 0 0 ∧ Aside (Ext w wr))
    case atStart => exact ⟨rfl, rfl, Ext.refl _⟩
    case round =>
      obtain ⟨rfl, rfl, BW⟩ := hrel
      have hfin : ∀ W, Own encI 3 1 W w.heap.size (.slice none 0 0) (cutsL l) := fun W => by unfold cutsL; rw [if_pos HAL.out]; exact Own.nil _ _
      have HFI := Lib.hid hfin; clear hfin
      by_cases h1 : 1 < n
      · have h1z : (1 : Int) < (n : Int) := by omega
        go_wp2_with fail
        refine (alike_any l _ _ (HS.out.ext BW.out) H0.out HB.out).mono ?_
        rintro e w1 ⟨rfl, hE⟩
        rw [HAL.out]
        go_wp2
        go_ret
        exact ⟨_, rfl, HFI.out _, BW.out.trans hE⟩
      · have h1z : ¬ (1 : Int) < (n : Int) := by omega
        go_wp2
        go_ret
        exact ⟨_, rfl, HFI.out _, BW.out⟩
  | false =>
    have HAL := Lib.hid hal
    clear hal
    go_loopg [3, 4] n (fun gg s3 s4 wr => ∃ kk : Nat, 1 ≤ kk ∧ kk ≤ n ∧ n - kk ≤ gg ∧ s4 = .int .i64 kk ∧ Aside (Own encI 3 1 wr w.heap.size s3 (cutsTo l kk)) ∧ Aside (Ext w wr))
    case atStart => exact ⟨1, by omega, by omega, by omega, rfl, Own.nil _ _, Ext.refl _⟩
    case round =>
      obtain ⟨kk, h1, hkk, hg, rfl, OW, BW⟩ := hrel
      by_cases hlt : kk < n
      · have hltz : (kk : Int) < (n : Int) := by omega
        have hkz : (0 : Int) ≤ (kk : Int) := by omega
        have hkc : (kk : Int) ≤ (c : Int) := by omega
        have hnc : ¬ (c = kk) := by omega
        have T1 := Lib.hid (HS.out.take (k := kk) (c' := c) (by omega) (by omega) hcm')
        have T2 := Lib.hid (show SlI w (.slice (some ⟨b, off + kk, none⟩) (n - kk) (c - kk)) (l.drop kk) by simpa only [Nat.mul_one] using HS.out.drop (k := kk) (c' := c - kk) (by omega) (by omega))
        have L1 := Lib.hid (show 0 < (l.take kk).length by rw [List.length_take]; have := hn.out; omega)
        have L2 := Lib.hid (show 0 < (l.drop kk).length by rw [List.length_drop]; have := hn.out; omega)
        have HCU := Lib.hid (show cutAt l kk = (alikeL (l.take kk) && alikeL (l.drop kk)) by unfold cutAt; rw [decide_eq_true h1, Bool.true_and])
        go_wp2_with fail
        refine (alike_any l _ _ (HS.out.ext BW.out) H0.out HB.out).mono ?_
        rintro e w1 ⟨rfl, hE⟩
        rw [HAL.out]
        have E1 := Lib.hid (BW.out.trans hE)
        have O1 := Lib.hid (OW.out.ext hE)
        clear hE BW OW
        go_wp2_with fail
        refine (alike_any (l.take kk) _ _ (T1.out.ext E1.out) L1.out (HB.out.take kk)).mono ?_
        rintro e w2 ⟨rfl, hE⟩
        have E2 := Lib.hid (E1.out.trans hE)
        have O2 := Lib.hid (O1.out.ext hE)
        clear hE O1 E1
        cases ha1 : alikeL (l.take kk) with
        | false =>
          have HC1 := Lib.hid (show cutsTo l (kk + 1) = cutsTo l kk by rw [cutsTo, HCU.out, ha1]; simp)
          clear ha1
          go_wp2
          go_roundg (n - (kk + 1))
          case measure => omega
          case rel => exact ⟨kk + 1, by omega, by omega, by omega, rfl, by rw [HC1.out]; exact O2.out, E2.out⟩
        | true =>
          have HA1 := Lib.hid ha1
          clear ha1
          go_wp2_with fail
          refine (alike_any (l.drop kk) _ _ (T2.out.ext E2.out) L2.out (HB.out.drop kk)).mono ?_
          rintro e w3 ⟨rfl, hE⟩
          have E3 := Lib.hid (E2.out.trans hE)
          have O3 := Lib.hid (O2.out.ext hE)
          clear hE O2 E2
          cases ha2 : alikeL (l.drop kk) with
          | false =>
            have HC1 := Lib.hid (show cutsTo l (kk + 1) = cutsTo l kk by rw [cutsTo, HCU.out, HA1.out, ha2]; simp)
            clear ha2
            go_wp2
            go_roundg (n - (kk + 1))
            case measure => omega
            case rel => exact ⟨kk + 1, by omega, by omega, by omega, rfl, by rw [HC1.out]; exact O3.out, E3.out⟩
          | true =>
            have HC1 := Lib.hid (show cutsTo l (kk + 1) = cutsTo l kk ++ [(kk : Int)] by rw [cutsTo, HCU.out, HA1.out, ha2]; simp)
            have HCL := Lib.hid (cutsTo_len l kk)
            clear ha2
            go_wp2_with (at_builtin; refine wpList_app encI 56 3 1 _ 8 Tryd.underlying56 info3x rfl (by decide) (by decide) (fun _ => rfl) encI_one rfl (.tmp 26) (.tmp 28) rfl w.heap.size _ (cutsTo l kk) rfl (O3.out.alloc _) w3.heap.size 1 (kk : Int) rfl (cells1 (by simp [go_sem])) (by have := HCL.out; omega) (by have := E3.out.size; simp; omega) ?_)
            intro g cap w' hown hg2 hbel _
            have HO := Lib.hid hown; clear hown
            have HBE := Lib.hid (show Ext w w' from Below.trans (E3.out.alloc _) hbel); clear hbel
            go_wp2
            go_roundg (n - (kk + 1))
            case measure => omega
            case rel => exact ⟨kk + 1, by omega, by omega, by omega, rfl, by rw [HC1.out]; exact HO.out, HBE.out⟩
      · have HKE := Lib.hid (show cutsL l = cutsTo l kk by unfold cutsL; rw [HAL.out, show l.length = kk by have := hn.out; omega]; rfl)
        go_wp2
        go_ret
        exact ⟨_, rfl, by rw [HKE.out]; exact OW.out, BW.out⟩
theorem Own.block_ge {W : World} {base n c : Nat} {A : Option Addr} {l : List Int} (h : Own encI 3 1 W base (.slice A n c) l) : ∀ b o, A = some ⟨b, o, none⟩ → base ≤ b := by
  rcases h.2 with ⟨hv, _⟩ | ⟨g, cap, _, hv, hg, _⟩
  · injection hv with e1 e2 e3
    subst e1
    intro b o e; cases e
  · injection hv with e1 e2 e3
    subst e1
    intro b o e
    injection e with e; injection e with e1 e2
    omega
end Go.Proofs.YtdlipbobfgdleaaDoor
/- core.Kind. -/
namespace Go.Proofs.YtdlipbobfgdleaaDoor
open Go.RowKit Go.Shelf
set_option maxRecDepth 100000
set_option linter.unusedSimpArgs false

theorem f95_any (r : Int) (g : Nat) (w : World) (h1 : w.cell? ⟨g, 0, none⟩ = some (.int .i64 r)) :
    Calls Tryd.prog 95 #[.pointer (some ⟨g, 0, none⟩)] w fun e w' => e = .returned (.bool (inB 1 4 r)) ∧ Ext w w' := by
  go_enter Tryd.func95, Tryd.ntmps95
  go_wp2_with fail
  refine (in1_any 1 4 r _ _ (by simp) (by simp [go_sem])).mono ?_
  rintro e w1 ⟨rfl, hb⟩
  have HB := Lib.hid hb; clear hb
  go_wp2
  go_ret
  exact ⟨rfl, (Ext.al _ _).trans HB.out⟩

set_option maxHeartbeats 4000000 in
theorem kindC_any (b : Bale) (r : Int) (dv wv : Value) (w : World) (hT : Tab w) (hd : SlD w dv b.draws) (hw : SlW w wv b.weighs) :
    Calls Tryd.prog 37 #[valB b dv wv, .int .i64 r] w fun e w' => e = .returned (.tuple #[.int .u8 (kindB b r), .int .i64 (askE b (inB 1 4 r) 32)]) ∧ Ext w w' := by
  have HT := Lib.hid hT
  have HD := Lib.hid hd
  have HW := Lib.hid hw
  obtain ⟨A, n, cp, rfl, hn, hlc, hcm⟩ := hd.form
  obtain ⟨A2, n2, cp2, rfl, hn2, hlc2, hcm2⟩ := hw.form
  clear hd hw hT
  go_enter Tryd.func37, Tryd.ntmps37
  go_wp2_with fail
  refine (asked_fn b _ _ _ 95 _ (enters_of Tryd.func95 (by kernel_rfl) rfl) (inB 1 4 r) 32 (by decide) (fun hv W hW => f95_any r _ W ((hW.cell (p := ⟨w.heap.size + 1, 0, none⟩) (by simp)).trans (by simp [go_sem]))) ((HT.out.ext (Ext.al _ _)).ext (Ext.al _ _)) ((HD.out.ext (Ext.al _ _)).ext (Ext.al _ _)) ((HW.out.ext (Ext.al _ _)).ext (Ext.al _ _))).mono ?_
  rintro e w1 ⟨pv, rfl, hpv, hpz, hE⟩
  have HEW := Lib.hid (((Ext.al w _).alloc _ : Ext w _).trans hE)
  have HBD := Lib.hid ((Blk.at_ (t := 3) (cs := #[.int .i64 r]) (w := w.alloc (.cells #[.int .i64 b.id, .int .i64 b.layers, .int .i64 b.dry.lo, .int .i64 b.dry.hi, .slice A n cp, .slice A2 n2 cp2] 27)) (g := w.heap.size + 1) (by simp)).ext hE)
  clear hE
  by_cases hz9 : askE b (inB 1 4 r) 32 = 0
  · obtain ⟨sv, lv, rfl, hs, hl⟩ := hpv hz9
    obtain ⟨h1, h2, h3⟩ := askE_zero hz9 (by decide)
    have hb5 := valid_bds h1
    have hr : 1 ≤ r ∧ r ≤ 4 := by unfold inB at h2; simpa using h2
    have HK := Lib.hid (show kindB b r = kindK (kindS b) r by unfold kindB; rw [if_pos hz9])
    have HZ := Lib.hid hz9
    obtain ⟨Al, nl, cl, rfl, hnl, hlc', hlm⟩ := hl.form
    have hln := spans_len b
    have hl0 : 0 < (spans b).length := by have := hb5.l1; omega
    have hl5 : (spans b).length ≤ 5 := by have := hb5.l5; omega
    obtain ⟨As, cs, rfl, hsc, hsm, hcx⟩ := id hs
    obtain ⟨bs, os, rfl, -, -⟩ := hcx hl0
    have HS := Lib.hid hs
    have hbd : ∀ x ∈ spans b, 0 ≤ x.lo ∧ x.lo ≤ 1000 ∧ x.hi ≤ 1000 := fun x hx => by have := spans_bd h1 x hx; omega
    have HMA := Lib.hid (fun W hS => kinds_any b (.slice A n cp) (.slice A2 n2 cp2) (.slice Al nl cl) bs os cs (spans b) 0 0 0 0 0 W hl5 hl0 hbd hS)
    generalize hsp : spans b = sp at *
    have HSP := Lib.hid hsp
    rw [hz9]
    dsimp only [valP]
    clear hz9 hs hl hsc hsm hcx hbd hb5 h1 h2 h3 hpv hpz hsp hln hl0 hl5
    have hlt := HBD.out.lt
    have d0 := HBD.out.cell 0
    simp at d0
    go_wp2_with fail
    refine (HMA.out _ (HS.out.ext (Ext.al _ _))).mono ?_
    rintro e w5 ⟨m, rfl, hmi, hE5⟩
    have HB5 := Lib.hid ((HBD.out.alloc _).ext hE5)
    have HE5 := Lib.hid ((HEW.out.trans (Ext.al _ _)).trans hE5); clear hE5
    have HKS := Lib.hid (show kindS b = kindsOf (truthsL (sp.zip [0, 0, 0, 0, 0])) by unfold kindS; rw [HSP.out])
    generalize kindsOf (truthsL (sp.zip [0, 0, 0, 0, 0])) = s at *
    have lk := hmi.look hr.1 hr.2
    have ln := hmi.len 3
    have hnm := S4.num_le s
    have e0 := HB5.out.cell 0
    simp at e0
    clear hmi d0
    cases hh : s.has r with
    | false =>
      rw [hh] at lk
      have HKK := Lib.hid (show kindK s r = 0 by unfold kindK; rw [hh]; rfl)
      go_wp2
      refine bodyPost_ret (v := .tuple #[.int .u8 0, .int .i64 0]) (by simp [results, Tryd.results37, go_sem]) rfl ?_
      exact ⟨by rw [HK.out, HZ.out, HKS.out, HKK.out], HE5.out⟩
    | true =>
      rw [hh] at lk
      by_cases hn1 : s.num = 1
      · have HKK := Lib.hid (show kindK s r = 2 by unfold kindK; rw [hh, hn1]; rfl)
        rw [hn1] at ln
        clear hn1 hnm
        go_wp2
        refine bodyPost_ret (v := .tuple #[.int .u8 2, .int .i64 0]) (by simp [results, Tryd.results37, go_sem]) rfl ?_
        exact ⟨by rw [HK.out, HZ.out, HKS.out, HKK.out], HE5.out⟩
      · have HKK := Lib.hid (show kindK s r = 1 by unfold kindK; rw [if_pos hh, if_neg hn1])
        have hn2 : ¬ ((s.num : Int) = 1) := by omega
        clear hn1
        go_wp2
        refine bodyPost_ret (v := .tuple #[.int .u8 1, .int .i64 0]) (by simp [results, Tryd.results37, go_sem]) rfl ?_
        exact ⟨by rw [HK.out, HZ.out, HKS.out, HKK.out], HE5.out⟩
  · have HK := Lib.hid (show kindB b r = 0 by unfold kindB; rw [if_neg hz9])
    obtain rfl := hpz hz9
    generalize hE9 : askE b (inB 1 4 r) 32 = E at hz9
    have HE9 := Lib.hid hE9; clear hE9 hpv hpz
    have HE1 := Lib.hid (HEW.out.alloc (.cells #[.int .i64 0, .int .i64 0, .int .i64 0, .int .i64 0, .slice none 0 0, .slice none 0 0, .slice none 0 0, .slice none 0 0] 106))
    go_wp2
    refine bodyPost_ret (v := .tuple #[.int .u8 0, .int .i64 E]) (by simp [results, Tryd.results37, go_sem]) rfl ?_
    exact ⟨by rw [HK.out, HE9.out], HE1.out⟩
end Go.Proofs.YtdlipbobfgdleaaDoor
/- core.Cut. -/
namespace Go.Proofs.YtdlipbobfgdleaaDoor
open Go.RowKit Go.Shelf Go.Lib
set_option maxRecDepth 100000
set_option linter.unusedSimpArgs false
attribute [local go_sem] Oper.semAt_some

def cutStep (s : Span) (k : Int) : Span := ⟨min s.lo k, max s.hi k⟩
def cutFold (s : Span) (ls : List (List Int)) : Span := ls.foldl (fun s l => (cutsL l).foldl cutStep s) s
theorem cutFold_snoc (s : Span) (ls : List (List Int)) (l : List Int) : cutFold s (ls ++ [l]) = (cutsL l).foldl cutStep (cutFold s ls) := by unfold cutFold; rw [List.foldl_append]; rfl
/-- All truths of a bale. -/
def truthsB (b : Bale) : List (List Int) := truthsL ((spans b).zip [0, 0, 0, 0, 0])
def cutS (b : Bale) : Span := cutFold ⟨b.layers, 0⟩ (truthsB b)
def cutB (b : Bale) : Span := if askE b true 0 = 0 then (if (cutS b).hi = 0 then ⟨0, 0⟩ else cutS b) else ⟨0, 0⟩
def cutE (b : Bale) : Int := if askE b true 0 = 0 then (if (cutS b).hi = 0 then 6 else 0) else askE b true 0

theorem cutsL_len (l : List Int) : (cutsL l).length ≤ l.length := by
  unfold cutsL
  split
  · simp
  · exact cutsTo_len _ _
theorem keep_set {n₀ g : Nat} (A : World) {p : Addr} (hp : p.block = g) (hn : n₀ ≤ g) (u : Value) : Keep n₀ (fun k => k = g) A (A.setCell p u) :=
  ⟨(Below.refl _ A).setCell (by omega) u, fun i _ hx _ => Below.heap_setCell A p u i (by intro e; exact hx (by omega))⟩
theorem Blk.turn {s g : Nat} {t : TypeId} {cs : Array Value} {A B : World} (h : Blk A g t cs) (k : Turn s A B) (h1 : g ≠ s) (h2 : g ≠ s + 1) : Blk B g t cs := (k.block g h.lt h1 h2).trans h
theorem Blk.keep {n₀ g : Nat} {X : Nat → Prop} {t : TypeId} {cs : Array Value} {A B : World} (h : Blk A g t cs) (k : Keep n₀ X A B) (hx : ¬ X g) : Blk B g t cs := (k.c g h.lt hx ⟨_, _, _, h⟩).trans h

set_option maxHeartbeats 4000000 in
theorem cut_any (b : Bale) (dv wv : Value) (w : World) (hT : Tab w) (hd : SlD w dv b.draws) (hw : SlW w wv b.weighs) :
    Calls Tryd.prog 39 #[valB b dv wv] w fun e w' => e = .returned (.tuple #[valS (cutB b), .int .i64 (cutE b)]) ∧ Ext w w' := by
  have HT := Lib.hid hT
  have HD := Lib.hid hd
  have HW := Lib.hid hw
  obtain ⟨A, n, cp, rfl, hn, hlc, hcm⟩ := hd.form
  obtain ⟨A2, n2, cp2, rfl, hn2, hlc2, hcm2⟩ := hw.form
  clear hd hw hT
  refine calls_of_wp_marks Tryd.func39 rfl ?_
  simp only [Tryd.ntmps39, List.size_toArray, List.length_cons, List.length_nil, Nat.reduceAdd, Nat.reduceSub, Array.replicate_succ, Array.replicate_zero, List.push_toArray, List.append_toArray, List.nil_append, List.cons_append]
  go_wp2_with fail
  refine (asked_nil b _ _ _ ((HT.out.ext (Ext.al _ _)).ext (Ext.al _ _)) ((HD.out.ext (Ext.al _ _)).ext (Ext.al _ _)) ((HW.out.ext (Ext.al _ _)).ext (Ext.al _ _))).mono ?_
  rintro e w1 ⟨pv, rfl, hpv, hpz, hE⟩
  have HEW := Lib.hid (((Ext.al w _).alloc _ : Ext w _).trans hE)
  have HBR := Lib.hid ((Blk.at_ (t := 23) (cs := #[.int .i64 0, .int .i64 0]) (w := w.alloc (.cells #[.int .i64 b.id, .int .i64 b.layers, .int .i64 b.dry.lo, .int .i64 b.dry.hi, .slice A n cp, .slice A2 n2 cp2] 27)) (g := w.heap.size + 1) (by simp)).ext hE)
  clear hE
  by_cases hz9 : askE b true 0 = 0
  · obtain ⟨sv, lv, rfl, hs, hl⟩ := hpv hz9
    obtain ⟨h1, h3⟩ : valid b = true ∧ okB b = true := by
      unfold askE at hz9
      split at hz9
      · simp at hz9; exact ⟨by assumption, hz9⟩
      · cases hz9
    have hb5 := valid_bds h1
    obtain ⟨Al, nl, cl, rfl, hnl, hlc', hlm⟩ := hl.form
    have hln := spans_len b
    have hl0 : 0 < (spans b).length := by have := hb5.l1; omega
    have hl5 : (spans b).length ≤ 5 := by have := hb5.l5; omega
    obtain ⟨As, cs, rfl, hsc, hsm, hcx⟩ := id hs
    obtain ⟨bs, os, rfl, hbs, -⟩ := hcx hl0
    have HBD := Lib.hid (show ∀ x ∈ spans b, 1 ≤ x.lo ∧ x.lo ≤ 9 ∧ x.hi ≤ 9 ∧ 1 ≤ x.hi from fun x hx => spans_bd h1 x hx)
    have HC := Lib.hid (show cutB b = if (cutS b).hi = 0 then ⟨0, 0⟩ else cutS b by unfold cutB; rw [if_pos hz9])
    have HCE := Lib.hid (show cutE b = if (cutS b).hi = 0 then 6 else 0 by unfold cutE; rw [if_pos hz9])
    have HCS := Lib.hid (show cutS b = cutFold ⟨b.layers, 0⟩ (truthsL ((spans b).zip [0, 0, 0, 0, 0])) from rfl)
    have HS := Lib.hid hs
    have HL0 := Lib.hid hl0; have HL5 := Lib.hid hl5
    have HBS := Lib.hid hbs
    generalize hsp : spans b = sp at *
    rw [hz9]
    dsimp only [valP]
    clear hz9 hs hl hsc hsm hcx hb5 h1 h3 hpv hpz hsp hln hl0 hl5 hbs
    have hlt := HBR.out.lt
    have b0 := HBR.out.cell 0
    have b1 := HBR.out.cell 1
    have bf := HBR.out.frozen
    simp at b0 b1
    go_wp2_with fail
    refine (truths_any b _ _ _ _ _ _ _ _ _ _).mono ?_
    rintro e w6 ⟨rfl, hw6⟩
    have HW6 := Lib.hid hw6; clear hw6
    go_wp2_with fail
    have hw6 := HW6.out
    have hE6 : Ext (w1.alloc (.cells #[.int .i64 b.id, .int .i64 b.layers, .int .i64 b.dry.lo, .int .i64 b.dry.hi, .slice A n cp, .slice A2 n2 cp2, .slice (some ⟨bs, os, none⟩) sp.length cs, .slice Al nl cl] 106)) w6 := by rw [hw6]; exact ((Ext.al _ _).alloc _).alloc _
    have E16 : Ext w1 w6 := (Ext.al _ _).trans hE6
    have hz6 : w6.heap.size = w1.heap.size + 4 := by rw [hw6]; simp
    have hB6 : Blk w6 (w1.heap.size + 1) 23 #[.int .i64 b.layers, .int .i64 0] := by
      rw [hw6]; exact ((Blk.at_ (t := 23) (cs := #[.int .i64 b.layers, .int .i64 0]) (by simp)).alloc _).alloc _
    have hPM : PM (w1.heap.size + 1 + 1) bs os (w1.heap.size + 1 + 1 + 1) cs sp [0, 0, 0, 0, 0] w6 := by
      have hb6 : Blk w6 (w1.heap.size + 1 + 1) 106 #[.int .i64 b.id, .int .i64 b.layers, .int .i64 b.dry.lo, .int .i64 b.dry.hi, .slice A n cp, .slice A2 n2 cp2, .slice (some ⟨bs, os, none⟩) sp.length cs, .slice Al nl cl] := by rw [hw6]; exact (Blk.at_ (by simp)).alloc _
      have hs6 : Blk w6 (w1.heap.size + 1 + 1 + 1) 127 #[.int .i64 0, .int .i64 0, .int .i64 0, .int .i64 0, .int .i64 0] := by rw [hw6]; exact Blk.at_ (by simp)
      refine ⟨hb6.cell 6, fun i x hx => ?_, fun i n hn => ?_⟩
      · obtain ⟨b', off', x', e1, hx', _, hc⟩ := HS.out.at_ (show i < sp.length from (List.getElem?_eq_some_iff.1 hx).1)
        injection e1 with e1
        injection e1 with e1 e2
        subst e1 e2
        rw [hx] at hx'
        injection hx' with hx'
        subst hx'
        exact SlS.cells hc E16
      · have := hs6.cell i
        match i, hn with
        | 0, hn => simp at hn; subst hn; exact this
        | 1, hn => simp at hn; subst hn; exact this
        | 2, hn => simp at hn; subst hn; exact this
        | 3, hn => simp at hn; subst hn; exact this
        | 4, hn => simp at hn; subst hn; exact this
    have HBR6 := Lib.hid (HBR.out.ext E16)
    have HEW6 := Lib.hid (HEW.out.trans E16)
    have HB6 := Lib.hid hB6
    have HZ6 := Lib.hid hz6
    have hwz := HEW6.out.size
    have HLT := Lib.hid hlt
    clear hw6 HW6 hE6 E16 b0 b1 bf
    refine wp_rangeFunc (by rfl) (enters_of Tryd.func130 (by kernel_rfl) rfl) (truths_seqs (w := w6) (X := fun k => k = w1.heap.size + 1) (n₀ := w.heap.size) HL5.out rfl (fun x hx => by have := HBD.out x hx; omega) (fun k h => by omega) (by omega) (by have := HBS.out; omega) (by omega) (by omega) hPM) (Ext.refl _) (by omega)
      (fun x v W r o h hr => sl_put h hr)
      (fun pre W => Blk W (w1.heap.size + 1) 23 #[.int .i64 (cutFold ⟨b.layers, 0⟩ pre).lo, .int .i64 (cutFold ⟨b.layers, 0⟩ pre).hi] ∧ Blk W (w.heap.size + 1) 23 #[.int .i64 0, .int .i64 0] ∧ Below w.heap.size w W)
      (fun _ _ _ => False)
      ?_ ?_ ?_ (fun v => { tmps := #[(valB b (.slice A n cp) (.slice A2 n2 cp2)), .pointer (some ⟨w.heap.size, 0, none⟩), .pointer (some ⟨w.heap.size + 1, 0, none⟩), .int .i64 0, .pointer (some ⟨w1.heap.size, 0, none⟩), .int .i64 0, .pointer (some ⟨w1.heap.size + 1, 0, none⟩), v, undef, undef, .tuple #[(valP b (.slice A n cp) (.slice A2 n2 cp2) (.slice (some ⟨bs, os, none⟩) sp.length cs) (.slice Al nl cl)), .int .i64 0], (valB b (.slice A n cp) (.slice A2 n2 cp2)), .tuple #[(valP b (.slice A n cp) (.slice A2 n2 cp2) (.slice (some ⟨bs, os, none⟩) sp.length cs) (.slice Al nl cl)), .int .i64 0], (valP b (.slice A n cp) (.slice A2 n2 cp2) (.slice (some ⟨bs, os, none⟩) sp.length cs) (.slice Al nl cl)), .int .i64 0, .int .i64 0, .bool false, undef, undef, .pointer (some ⟨w1.heap.size, 0, none⟩), .pointer (some ⟨w1.heap.size, 1, none⟩), .int .i64 b.layers, .agg #[.int .i64 b.layers, .int .i64 0], (valP b (.slice A n cp) (.slice A2 n2 cp2) (.slice (some ⟨bs, os, none⟩) sp.length cs) (.slice Al nl cl)), .agg #[.int .i64 0, .int .i64 0, .int .i64 0, .int .i64 0, .int .i64 0], .func (.func 130) #[] #[.pointer (some ⟨w1.heap.size + 1 + 1, 0, none⟩), .pointer (some ⟨w1.heap.size + 1 + 1 + 1, 0, none⟩)], v, undef, undef, undef, undef, undef, undef, undef, undef, undef, undef, undef, undef, undef, undef, undef, undef, undef, undef, undef, undef, undef, undef, undef], defers := [] }) ?_ ?_ ?_ ?_
    · rintro pre A B ⟨h1, h2, h3⟩ hA hT
      exact ⟨h1.turn hT (by omega) (by omega), h2.turn hT (by omega) (by omega), hT.below h3 (by omega) (by omega)⟩
    · rintro c pre A B h
      exact h.elim
    · intro W hW
      exact ⟨HB6.out.ext hW, HBR6.out.ext hW, HEW6.out.trans hW⟩
    · intro m l v W K hK
      clear hz6 hwz hlt
      gi_wp2
      exact hK
    · rintro m l pre x v W ⟨h1, h2, h3⟩ hv hpre hlt2
      have hx : x ∈ truthsL (sp.zip [0, 0, 0, 0, 0]) := by
        obtain ⟨q, hq⟩ := hpre
        rw [← hq]; simp
      obtain ⟨hxl, hxb⟩ := truthsL_mem hx
      have hxl' : x.length = sp.length := by rw [hxl, List.length_zip]; have := HL5.out; simp; omega
      have HSM := Lib.hid (show Small x from fun n hn => by
        obtain ⟨y, hy, h6, h7⟩ := hxb n hn
        have := HBD.out y.1 (List.of_mem_zip hy).1
        omega)
      have HXL := Lib.hid (show 0 < x.length ∧ x.length ≤ 1000 by have := HL0.out; have := HL5.out; omega)
      have HV := Lib.hid hv; have H1 := Lib.hid h1; have H2 := Lib.hid h2; have H3 := Lib.hid h3
      have q1 : w1.heap.size + 1 < W.heap.size := by omega
      clear hx hxl hxb hxl' hv hpre h1 h2 h3 hz6 hwz hlt hPM hB6
      gi_wp2_with fail
      refine ⟨trivial, wide_depth _, ?_⟩
      refine (CallsIn.inRound l (callsIn_wide.2 (cutsOwn_any x v _ HV.out HXL.out.1 HXL.out.2 HSM.out))).mono ?_
      rintro e W1 ⟨u, rfl, ho, hE⟩
      have hsl : SlI W1 u (cutsL x) := Own.sl (enc := encI) (fun _ => rfl) ho
      obtain ⟨Au, nu, cu, rfl, hnu, -, -⟩ := hsl.form
      have hnub : nu ≤ 1000 := by have h1 := hnu.out; have h2 := cutsL_len x; have h3 := HXL.out.2; omega
      have HBG := Lib.hid (fun b' o e => Own.block_ge ho b' o e)
      have HSL := Lib.hid hsl
      have HB1 := Lib.hid (H1.out.ext hE)
      have HKE := Lib.hid (Keep.ext (n₀ := w.heap.size) (X := fun k => k = w1.heap.size + 1) hE (by have := H3.out.size; omega))
      have HHE := Lib.hid hE
      clear ho hsl hE
      gi_wp2
      gi_loopw [9, 30] (fun _ s30 wr => ∃ kk : Nat, kk ≤ nu ∧ s30 = .int .i64 kk ∧ Aside (Keep w.heap.size (fun k => k = w1.heap.size + 1) W1 wr) ∧ Aside (wr.heap[w6.heap.size]? = W.heap[w6.heap.size]?) ∧ Aside (wr.heap[w6.heap.size + 1]? = W.heap[w6.heap.size + 1]?) ∧ Aside (Blk wr (w1.heap.size + 1) 23 #[.int .i64 (((cutsL x).take kk).foldl cutStep (cutFold ⟨b.layers, 0⟩ pre)).lo, .int .i64 (((cutsL x).take kk).foldl cutStep (cutFold ⟨b.layers, 0⟩ pre)).hi])) (fun _ i _ => nu - (RowKit.intOf i).toNat)
      case atStart => exact ⟨0, by omega, rfl, Keep.refl _, HHE.out.block _ (by omega), HHE.out.block _ (by omega), HB1.out⟩
      case round =>
        obtain ⟨kk, hkk, rfl, KW, D0, D1, BW⟩ := hrel
        by_cases hlt3 : kk < nu
        · have hltz : (kk : Int) < (nu : Int) := by omega
          have hslw := Sl.keep HSL.out KW.out (fun b' o e h => by have := HBG.out b' o e; omega)
          obtain ⟨bu, ou, y, rfl, hy, hbu, hcell⟩ := hslw.at_ hlt3
          have c0 := Sl.int hcell _ (Ext.refl _)
          have HY := Lib.hid (foldl_snoc cutStep (cutFold ⟨b.layers, 0⟩ pre) _ _ _ hy)
          have t0 := BW.out.cell 0
          have t1 := BW.out.cell 1
          have tf := BW.out.frozen
          have tl := BW.out.lt
          simp at t0 t1
          have hz6 := HZ6.out
          clear hslw hy hcell
          gi_wp2
          have hltc := HLT.out
          go_roundw
          case rel => exact ⟨kk + 1, by omega, by simp, (KW.out.trans (keep_set (g := w1.heap.size + 1) (p := ⟨w1.heap.size + 1, _, none⟩) _ rfl (by omega) _)).trans (keep_set (g := w1.heap.size + 1) (p := ⟨w1.heap.size + 1, _, none⟩) _ rfl (by omega) _), ((Below.heap_setCell _ _ _ _ (by dsimp only; omega)).trans (Below.heap_setCell _ _ _ _ (by dsimp only; omega))).trans D0.out, ((Below.heap_setCell _ _ _ _ (by dsimp only; omega)).trans (Below.heap_setCell _ _ _ _ (by dsimp only; omega))).trans D1.out, by
            rw [HY.out]; exact (BW.out.set_ 0 _).set_ 1 _⟩
          case measure => simp [RowKit.intOf]; omega
        · have HTK := Lib.hid (show (cutsL x).take kk = cutsL x from List.take_of_length_le (by have := hnu.out; omega))
          gi_wp2
          have hk := HKE.out.trans KW.out
          have hb : Blk wr (w1.heap.size + 1) 23 #[.int .i64 (cutFold ⟨b.layers, 0⟩ (pre ++ [x])).lo, .int .i64 (cutFold ⟨b.layers, 0⟩ (pre ++ [x])).hi] := by
            have := BW.out
            rw [HTK.out, ← cutFold_snoc] at this
            exact this
          have hz6 := HZ6.out
          exact ⟨hk, D0.out, D1.out, hb, H2.out.keep hk (by have := HLT.out; omega), H3.out.trans hk.b⟩
    · rintro W ⟨h1, h2, h3⟩ hlt2 hK
      rw [← HCS.out] at h1
      generalize cutS b = s at *
      obtain ⟨lo, hi⟩ := s
      have H1 := Lib.hid h1; have H2 := Lib.hid h2; have H3 := Lib.hid h3
      have c0 := h1.cell 0
      have c1 := h1.cell 1
      have ul := h1.lt
      have t0 := h2.cell 0
      have t1 := h2.cell 1
      have tf := h2.frozen
      have tl := h2.lt
      simp at c0 c1 t0 t1
      clear h1 h2 h3 hz6 hwz hPM hB6 hlt
      by_cases h0 : hi = 0
      · subst h0
        go_wp2
        have hK' : ((W.setCell ⟨w.heap.size + 1, 0, none⟩ (.int .i64 0)).setCell ⟨w.heap.size + 1, 1, none⟩ (.int .i64 0)).heap[w6.heap.size]? = some (.deferred (some [])) := ((Below.heap_setCell _ _ _ _ (by have := HZ6.out; have := HLT.out; dsimp only; omega)).trans (Below.heap_setCell _ _ _ _ (by have := HZ6.out; have := HLT.out; dsimp only; omega))).trans hK
        refine ⟨by simp, .inl ⟨_, _, rfl, run_takeDeferred hK', ?_⟩⟩
        have HBW := Lib.hid ((H2.out.set_ 0 (.int .i64 0)).set_ 1 (.int .i64 0))
        have HBW2 := Lib.hid (show Blk (((W.setCell ⟨w.heap.size + 1, 0, none⟩ (.int .i64 0)).setCell ⟨w.heap.size + 1, 1, none⟩ (.int .i64 0)).putObj w6.heap.size (.deferred none)) (w.heap.size + 1) 23 #[.int .i64 0, .int .i64 0] from (World.putObj_heap_other (by have := HZ6.out; have := HLT.out; omega)).trans HBW.out)
        have u0 := HBW2.out.cell 0
        have u1 := HBW2.out.cell 1
        simp at u0 u1
        have hbel : Below w.heap.size w ((W.setCell ⟨w.heap.size + 1, 0, none⟩ (.int .i64 0)).setCell ⟨w.heap.size + 1, 1, none⟩ (.int .i64 0)) := (H3.out.setCell (by dsimp only; omega) _).setCell (by dsimp only; omega) _
        refine ⟨.tuple #[valS ⟨0, 0⟩, .int .i64 6], by simp [results, Tryd.results39, go_sem, u0, u1], ?_, ?_⟩
        · rw [HC.out, HCE.out]; simp
        · exact Turn.below hbel (Turn.put0 (s := w6.heap.size) _ _) (by have := HEW6.out.size; omega) hbel.size
      · have h0' : (hi == 0) = false := by simpa using h0
        go_wp2
        have hK' : ((W.setCell ⟨w.heap.size + 1, 0, none⟩ (.int .i64 lo)).setCell ⟨w.heap.size + 1, 1, none⟩ (.int .i64 hi)).heap[w6.heap.size]? = some (.deferred (some [])) := ((Below.heap_setCell _ _ _ _ (by have := HZ6.out; have := HLT.out; dsimp only; omega)).trans (Below.heap_setCell _ _ _ _ (by have := HZ6.out; have := HLT.out; dsimp only; omega))).trans hK
        refine ⟨by simp, .inl ⟨_, _, rfl, run_takeDeferred hK', ?_⟩⟩
        have HBW := Lib.hid ((H2.out.set_ 0 (.int .i64 lo)).set_ 1 (.int .i64 hi))
        have HBW2 := Lib.hid (show Blk (((W.setCell ⟨w.heap.size + 1, 0, none⟩ (.int .i64 lo)).setCell ⟨w.heap.size + 1, 1, none⟩ (.int .i64 hi)).putObj w6.heap.size (.deferred none)) (w.heap.size + 1) 23 #[.int .i64 lo, .int .i64 hi] from (World.putObj_heap_other (by have := HZ6.out; have := HLT.out; omega)).trans HBW.out)
        have u0 := HBW2.out.cell 0
        have u1 := HBW2.out.cell 1
        simp at u0 u1
        have hbel : Below w.heap.size w ((W.setCell ⟨w.heap.size + 1, 0, none⟩ (.int .i64 lo)).setCell ⟨w.heap.size + 1, 1, none⟩ (.int .i64 hi)) := (H3.out.setCell (by dsimp only; omega) _).setCell (by dsimp only; omega) _
        refine ⟨.tuple #[valS ⟨lo, hi⟩, .int .i64 0], by simp [results, Tryd.results39, go_sem, u0, u1], ?_, ?_⟩
        · rw [HC.out, HCE.out]; simp [h0]
        · exact Turn.below hbel (Turn.put0 (s := w6.heap.size) _ _) (by have := HEW6.out.size; omega) hbel.size
    · rintro c pre W hpre h hlt2 hK
      exact h.elim
  · have HC := Lib.hid (show cutB b = ⟨0, 0⟩ by unfold cutB; rw [if_neg hz9])
    have HCE := Lib.hid (show cutE b = askE b true 0 by unfold cutE; rw [if_neg hz9])
    obtain rfl := hpz hz9
    generalize hE9 : askE b true 0 = E at hz9
    have HE9 := Lib.hid hE9; clear hE9 hpv hpz
    have hlt := HBR.out.lt
    have b0 := HBR.out.cell 0
    have b1 := HBR.out.cell 1
    have bf := HBR.out.frozen
    simp at b0 b1
    go_wp2
    have HBW := Lib.hid (((HBR.out.set_ 0 (.int .i64 0)).set_ 1 (.int .i64 0)).alloc (.cells #[.int .i64 0, .int .i64 0, .int .i64 0, .int .i64 0, .slice none 0 0, .slice none 0 0, .slice none 0 0, .slice none 0 0] 106))
    have u0 := HBW.out.cell 0
    have u1 := HBW.out.cell 1
    simp at u0 u1
    refine ⟨.tuple #[valS ⟨0, 0⟩, .int .i64 E], by simp [results, Tryd.results39, go_sem, u0, u1], ?_, ?_⟩
    · rw [HC.out, HCE.out, HE9.out]
    · exact ((HEW.out.setCell (by dsimp only; omega) _).setCell (by dsimp only; omega) _).alloc _
end Go.Proofs.YtdlipbobfgdleaaDoor
/- The reference's cuts: a recursion that notes each cut in an array. -/
namespace Go.Proofs.YtdlipbobfgdleaaDoor
open Go.RowKit Go.Shelf Go.Lib
set_option maxRecDepth 100000
set_option linter.unusedSimpArgs false

abbrev marksV (m : Nat → Bool) : Array Value := #[.bool (m 0), .bool (m 1), .bool (m 2), .bool (m 3), .bool (m 4), .bool (m 5)]
def cutM (l : List Int) (i : Nat) : Bool := decide (kindR l = 2) && (decide (1 ≤ i) && (decide (i < l.length) && cutR l i))
/-- .. so far. -/
def cutTo (l : List Int) (n i : Nat) : Bool := decide (1 ≤ i) && (decide (i < n) && cutR l i)
def rcm (m : Nat → Bool) (ls : List (List Int)) : Nat → Bool := fun i => m i || ls.any fun l => cutM l i
theorem rcm_append (m : Nat → Bool) (a b : List (List Int)) : rcm m (a ++ b) = rcm (rcm m a) b := by
  funext i; unfold rcm; rw [List.any_append, Bool.or_assoc]
theorem marks_set (m : Nat → Bool) {k : Nat} (h : k < 6) : (marksV m).setIfInBounds k (.bool true) = marksV (fun i => m i || (i == k)) := by
  obtain rfl | rfl | rfl | rfl | rfl | rfl : k = 0 ∨ k = 1 ∨ k = 2 ∨ k = 3 ∨ k = 4 ∨ k = 5 := by omega
  all_goals simp [marksV]
theorem cutTo_step (l : List Int) {n : Nat} (h1 : 1 ≤ n) : cutTo l (n + 1) = fun i => cutTo l n i || (i == n && cutR l n) := by
  funext i
  unfold cutTo
  by_cases hi : i = n
  · subst hi; simp [h1]
  · by_cases hlt : i < n
    · simp [hi, hlt, show i < n + 1 by omega]
    · simp [hi, hlt, show ¬ i < n + 1 by omega]

set_option maxHeartbeats 2000000 in
theorem rcuts_leaf (sv : Value) (sp : List Span) (bb off cs ob : Nat) (hsv : sv = .slice (some ⟨bb, off, none⟩) sp.length cs) (g : List Int) (A : Option Addr) (c : Nat) (m : Nat → Bool) (W : World) (hg : g.length = sp.length) (h0 : 0 < g.length) (hlen : g.length ≤ 5)
    (hs : SlI W (.slice A g.length c) g) (hA : ∀ b o, A = some ⟨b, o, none⟩ → b ≠ ob) (hb : ∀ n ∈ g, 1 ≤ n ∧ n ≤ 9) (hB : Blk W ob 137 (marksV m)) :
    Calls Tryd.prog 99 #[sv, .slice A g.length c, .pointer (some ⟨ob, 0, none⟩)] W fun e W' => (∃ v, e = .returned v) ∧ W.grownBy W' (some ob) ∧ Blk W' ob 137 (marksV (fun i => m i || cutM g i)) := by
  subst hsv
  obtain ⟨_, _, e1, hlc, hcm, -⟩ := id hs
  injection e1 with e1 e2 e3; subst e1 e3
  obtain ⟨b, o, x, rfl, -, -, -⟩ := hs.at_ h0
  have hbo := hA _ _ rfl
  have HS := Lib.hid hs; have HB := Lib.hid hB; have H0 := Lib.hid h0; have HL := Lib.hid hlen; have HBD := Lib.hid hb
  have HSB := Lib.hid (show Small g from fun n hn => by have := hb n hn; omega)
  clear hs hB hb
  generalize hgl : g.length = n at *
  have hn' : (n : Int) = (sp.length : Int) := by omega
  have HGL := Lib.hid hgl
  have HA := Lib.hid hbo
  have hcm' : c ≤ maxLen := hcm
  clear h0 hgl hg hA hbo
  go_enter Tryd.func99, Tryd.ntmps99
  go_wp2_with fail
  refine (kindR_any g _ _ HS.out (HGL.out ▸ H0.out) (by have := HGL.out; omega) HBD.out).mono ?_
  rintro e w1 ⟨rfl, hE⟩
  have E1 := Lib.hid hE; clear hE
  by_cases hk2 : kindR g = 2
  · have HK := Lib.hid (show ∀ i, cutM g i = cutTo g n i by intro i; unfold cutM cutTo; rw [hk2, HGL.out]; rfl)
    rw [hk2]
    clear hk2
    go_wp2
    go_loopg [7] n (fun gg s7 wr => ∃ kk : Nat, 1 ≤ kk ∧ kk ≤ n ∧ n - kk ≤ gg ∧ s7 = .int .i64 kk ∧ Aside (W.grownBy wr (some ob)) ∧ Aside (Blk wr ob 137 (marksV (fun i => m i || cutTo g kk i))))
    case atStart => exact ⟨1, by omega, H0.out, by omega, rfl, grown_ext (World.grownBy.refl _ _) E1.out, by
      have := HB.out.ext E1.out
      have h1 : (fun i => m i || cutTo g 1 i) = m := by
        funext i
        unfold cutTo
        by_cases h : 1 ≤ i
        · simp [show ¬ i < 1 by omega]
        · simp [h]
      show Blk _ _ _ _
      rw [h1]; exact this⟩
    case round =>
      obtain ⟨kk, h1, hkk, hgg, rfl, GR, BL⟩ := hrel
      by_cases hlt : kk < n
      · have hltz : (kk : Int) < (n : Int) := by omega
        have hkz : (0 : Int) ≤ (kk : Int) := by omega
        have hkc : (kk : Int) ≤ (c : Int) := by omega
        have hkn : (kk : Int) ≤ (n : Int) := by omega
        have hnc : ¬ (c = kk) := by omega
        have hk6 : (kk : Int) < 6 := by omega
        have HSW := Lib.hid (HS.out.grown GR.out (fun b' o' e => by injection e with e; injection e with e1 e2; rw [← e1]; exact HA.out))
        have T1 := Lib.hid (HSW.out.take (k := kk) (c' := c) (by omega) (by omega) hcm')
        have T2 := Lib.hid (show SlI wr (.slice (some ⟨b, o + kk, none⟩) (n - kk) (c - kk)) (g.drop kk) by simpa only [Nat.mul_one] using HSW.out.drop (k := kk) (c' := c - kk) (by omega) (by omega))
        have HST := Lib.hid (cutTo_step g h1)
        go_wp2_with fail
        refine (alikeR_any (g.take kk) _ _ T1.out (HSB.out.take kk)).mono ?_
        rintro e w2 ⟨rfl, hE⟩
        have E2 := Lib.hid hE; clear hE
        cases ha1 : alikeR (g.take kk) with
        | false =>
          have HC1 := Lib.hid (show cutTo g (kk + 1) = cutTo g kk by rw [HST.out]; funext i; simp [cutR, ha1])
          clear ha1
          go_wp2
          go_roundg (n - (kk + 1))
          case measure => omega
          case rel => exact ⟨kk + 1, by omega, by omega, by omega, by simp, grown_ext GR.out E2.out, by show Blk _ _ _ _; rw [HC1.out]; exact BL.out.ext E2.out⟩
        | true =>
          have HA1 := Lib.hid ha1; clear ha1
          go_wp2_with fail
          refine (alikeR_any (g.drop kk) _ _ (T2.out.ext E2.out) (HSB.out.drop kk)).mono ?_
          rintro e w3 ⟨rfl, hE⟩
          have E3 := Lib.hid (E2.out.trans hE); clear hE
          cases ha2 : alikeR (g.drop kk) with
          | false =>
            have HC1 := Lib.hid (show cutTo g (kk + 1) = cutTo g kk by rw [HST.out]; funext i; simp [cutR, ha2])
            clear ha2
            go_wp2
            go_roundg (n - (kk + 1))
            case measure => omega
            case rel => exact ⟨kk + 1, by omega, by omega, by omega, by simp, grown_ext GR.out E3.out, by show Blk _ _ _ _; rw [HC1.out]; exact BL.out.ext E3.out⟩
          | true =>
            have HC1 := Lib.hid (show (fun i => m i || cutTo g (kk + 1) i) = fun i => (m i || cutTo g kk i) || (i == kk) by rw [HST.out]; funext i; simp [cutR, HA1.out, ha2, Bool.or_assoc])
            have BW := Lib.hid (BL.out.ext E3.out)
            have bl := BW.out.lt
            have bf := BW.out.frozen
            have bk : w3.cell? ⟨ob, kk, none⟩ = some (.bool (m kk || cutTo g kk kk)) := by
              rw [BW.out.cell kk]
              obtain rfl | rfl | rfl | rfl | rfl : kk = 0 ∨ kk = 1 ∨ kk = 2 ∨ kk = 3 ∨ kk = 4 := by omega
              all_goals rfl
            have HK6 := Lib.hid (show kk < 6 by omega)
            clear ha2
            go_wp2
            go_roundg (n - (kk + 1))
            case measure => omega
            case rel => exact ⟨kk + 1, by omega, by omega, by omega, by simp, grown_set (grown_ext GR.out E3.out) (.inl rfl) _, by
              show Blk _ _ _ _
              rw [HC1.out, ← marks_set _ HK6.out]; exact BW.out.set_ kk _⟩
      · have HKN := Lib.hid (show kk = n by omega)
        go_wp2
        go_end0
        refine ⟨⟨_, rfl⟩, GR.out, ?_⟩
        have := BL.out
        rw [HKN.out] at this
        simpa only [HK.out] using this
  · have HK := Lib.hid (show ∀ i, cutM g i = false by intro i; unfold cutM; rw [decide_eq_false hk2]; rfl)
    have hk2' : (kindR g != 2) = true := by simpa using hk2
    clear hk2
    go_wp2
    refine bodyPost_ret (results_none rfl _ _ _) rfl ?_
    refine ⟨⟨_, rfl⟩, grown_ext (World.grownBy.refl _ _) E1.out, ?_⟩
    have := HB.out.ext E1.out
    simpa only [HK.out, Bool.or_false] using this

set_option maxHeartbeats 4000000 in
theorem rcuts_any {sp : List Span} {bb off cs ob : Nat} (hsp : sp.length ≤ 5) (hbd : ∀ x ∈ sp, 1 ≤ x.lo ∧ x.lo ≤ 1000 ∧ x.hi ≤ 9) (hbo : bb ≠ ob) :
    ∀ (k : Nat) (g : List Int) (A : Option Addr) (c : Nat) (s : Nat → Bool) (W₀ : World), g.length + k = sp.length → 0 < sp.length → SlI W₀ (.slice A g.length c) g → (∀ b o, A = some ⟨b, o, none⟩ → b ≠ ob) → SlS W₀ (.slice (some ⟨bb, off, none⟩) sp.length cs) sp → (∀ n ∈ g, 1 ≤ n ∧ n ≤ 9) → Blk W₀ ob 137 (marksV s) →
      Calls Tryd.prog 99 #[.slice (some ⟨bb, off, none⟩) sp.length cs, .slice A g.length c, .pointer (some ⟨ob, 0, none⟩)] W₀ fun e W' => (∃ v, e = .returned v) ∧ W₀.grownBy W' (some ob) ∧ Blk W' ob 137 (marksV (rcm s (exts g ((zOf sp).drop g.length)))) := by
  intro k
  induction k with
  | zero =>
    intro g A c s W₀ hg h0 hs hA hS hb hB
    have hd : (zOf sp).drop g.length = [] := List.drop_eq_nil_of_le (by simp [zOf]; omega)
    have he : exts g ((zOf sp).drop g.length) = [g] := by rw [hd]; simp [exts, truthsL]
    have hm : rcm s [g] = fun i => s i || cutM g i := by funext i; simp [rcm]
    rw [he, hm]
    exact rcuts_leaf _ sp bb off cs ob rfl g A c s W₀ (by omega) (by omega) (by omega) hs hA hb hB
  | succ k ih =>
    intro g A c s W₀ hg h0 hs hA hS hb hB
    have hat : g.length < sp.length := by omega
    obtain ⟨x, hx⟩ : ∃ x, sp[g.length]? = some x := ⟨_, List.getElem?_eq_getElem hat⟩
    have hdr := zOf_drop hx
    have hbx := hbd x (List.mem_of_getElem? hx)
    generalize hr : (zOf sp).drop (g.length + 1) = r at hdr
    rw [hdr]
    have hex : exts g ((x, 0) :: r) = doneTo g (x, 0) r (x.hi - x.lo + 1).toNat := exts_cons g (x, 0) r
    rw [hex]
    generalize hN : (x.hi - x.lo + 1).toNat = N
    obtain ⟨A', c', hv0, hlc, hcm, _⟩ := id hs
    injection hv0 with e1 e2 e3
    subst e1 e3
    generalize hgl : g.length = n at *
    have HS := Lib.hid hs; have HB := Lib.hid hB; have HSP := Lib.hid hS; have IH := Lib.hid ih; have HA := Lib.hid hA; have HBD := Lib.hid hb; have H00 := Lib.hid h0
    have HR := Lib.hid hr; have HGL := Lib.hid hgl
    obtain ⟨bb', off', x', e1, hx', hbl, hxc⟩ := hS.at_ hat
    injection e1 with e1
    injection e1 with e1 e2
    subst e1 e2
    obtain rfl : x' = x := by rw [hx] at hx'; injection hx' with h; exact h.symm
    have hatz : (n : Int) < (sp.length : Int) := by omega
    have hne : ¬ ((n : Int) = (sp.length : Int)) := by omega
    have hnz : (0 : Int) ≤ (n : Int) := by omega
    have hn1000 : n ≤ 1000 := by omega
    have HXC := Lib.hid hxc; have HXX := Lib.hid hx'
    clear hs hB hS ih hA hb hr hgl hdr hex hbd hxc hx' h0
    obtain ⟨c0, c1⟩ := SlS.cells HXC.out (Ext.refl _)
    go_enter Tryd.func99, Tryd.ntmps99
    go_wp2
    clear c0 c1
    go_loopg [6] N (fun gg s6 wr => ∃ q : Nat, q ≤ N ∧ N - q ≤ gg ∧ s6 = .int .i64 (x'.lo + (q : Int)) ∧ Aside (W₀.grownBy wr (some ob)) ∧ Aside (Blk wr ob 137 (marksV (rcm s (doneTo g (x', 0) r q)))))
    case atStart => exact ⟨0, by omega, by omega, by simp, World.grownBy.refl _ _, by
      have h1 : rcm s (doneTo g (x', 0) r 0) = s := by funext i; simp [rcm, doneTo, gTo]
      show Blk _ _ _ _
      rw [h1]; exact HB.out⟩
    case round =>
      obtain ⟨q, hq, hgg, rfl, HGR, HBL⟩ := hrel
      have HSW := Lib.hid (HSP.out.grown HGR.out (fun b o e => by injection e with e; injection e with e1 e2; rw [← e1]; exact hbo))
      have hxw : SlS wr (.slice (some ⟨bb, off, none⟩) sp.length cs) sp := HSW.out
      obtain ⟨bb', off', x2, e1, hx2, hbl2, hxc2⟩ := hxw.at_ hat
      have hnx : x2 = x' := by
        have := HXX.out
        rw [hx2] at this; injection this
      injection e1 with e1
      injection e1 with e1 e2
      subst e1 e2 hnx
      have c01 := SlS.cells hxc2 (Ext.refl _)
      obtain ⟨c0, c1⟩ := c01
      clear hxw hxc2
      by_cases hqN : q < N
      · have hle : x2.lo + (q : Int) ≤ x2.hi := by omega
        clear hbl2 hx2
        go_wp2_with (at_builtin; refine wpList_copy rfl (.tmp 30) (.tmp 31) rfl (base := wr.heap.size) (g := wr.heap.size) rfl rfl (Blk.new _ _ _) (Nat.le_refl _) (by simp) ((HS.out.grown HGR.out HA.out).ext (Ext.al _ _)) (by have := HGL.out; omega) ?_)
        intro v1 w1 hown hext
        have HO1 := Lib.hid hown; have HE1 := Lib.hid (show Ext wr w1 from (Ext.al _ _).trans hext); clear hown hext
        go_wp2_with (at_builtin; refine wpList_app encI 56 3 1 _ 8 Tryd.underlying56 info3x rfl (by decide) (by decide) (fun _ => rfl) encI_one rfl (.tmp 32) (.tmp 34) rfl wr.heap.size _ g rfl (HO1.out.alloc _) w1.heap.size 1 (x2.lo + (q : Int)) rfl (cells1 (by simp [go_sem])) (by have := HGL.out; omega) (by have := HE1.out.size; simp; omega) ?_)
        intro g' cap w6 hown2 hg2 hbel _
        have HE6 := Lib.hid (show Ext wr w6 from Below.trans (HE1.out.alloc _) hbel)
        have e1 : (g ++ [x2.lo + (q : Int)]).length = n + 1 := by simp [HGL.out]
        have H := IH.out (g ++ [x2.lo + (q : Int)]) (some ⟨g', 0, none⟩) cap (rcm s (doneTo g (x2, 0) r q)) w6 (by rw [e1]; omega) H00.out (by rw [e1]; have := (show SlI w6 _ _ from Own.sl (enc := encI) (fun _ => rfl) hown2); rw [HGL.out] at this; exact this)
          (fun b o e => by injection e with e; injection e with e2 e3; rw [← e2]; have := HBL.out.lt; omega) (HSW.out.ext HE6.out)
          (fun m hm => by rcases List.mem_append.1 hm with hm | hm
                          · exact HBD.out m hm
                          · simp at hm; omega) (HBL.out.ext HE6.out)
        rw [e1, HR.out] at H
        rw [HGL.out]
        have HD1 := Lib.hid (show doneTo g (x2, 0) r (q + 1) = doneTo g (x2, 0) r q ++ exts (g ++ [x2.lo + (q : Int)]) r by rw [doneTo_succ]; simp [])
        clear e1 hown2 hg2 hbel
        go_wp2_with (go_at_call 99; refine H.mono ?_; clear H; rintro e w' ⟨⟨v, rfl⟩, g1, g2⟩)
        rw [← rcm_append, ← HD1.out] at g2
        have HG2 := Lib.hid g2
        have HG1 := Lib.hid (grown_trans (grown_ext HGR.out HE6.out) g1)
        clear g1 g2
        go_wp2
        go_roundg (N - (q + 1))
        case measure => omega
        case rel => exact ⟨q + 1, by omega, by omega, by simp; omega, HG1.out, HG2.out⟩
      · have hqe : q = N := by omega
        subst hqe
        have hgt : x2.hi < x2.lo + (q : Int) := by omega
        go_wp2
        refine bodyPost_ret (results_none rfl _ _ _) rfl ?_
        exact ⟨⟨_, rfl⟩, HGR.out, HBL.out⟩
end Go.Proofs.YtdlipbobfgdleaaDoor
/- The reference's Cut. -/
namespace Go.Proofs.YtdlipbobfgdleaaDoor
open Go.RowKit Go.Shelf Go.Lib
set_option maxRecDepth 100000
set_option linter.unusedSimpArgs false

/-- The cuts that were noted, from the last one on. -/
def dn (M : Nat → Bool) : Nat → Span
  | 0 => ⟨0, 0⟩
  | j + 1 => if M (5 - j) then ⟨((5 - j : Nat) : Int), max (dn M j).hi ((5 - j : Nat) : Int)⟩ else dn M j
def marksB (b : Bale) : Nat → Bool := rcm (fun _ => false) (exts [] (zOf (spans b)))
def rcutS (b : Bale) : Span := dn (marksB b) 5
def rcutB (b : Bale) : Span := if askE b true 0 = 0 then rcutS b else ⟨0, 0⟩
def rcutE (b : Bale) : Int := if askE b true 0 = 0 then (if (rcutS b).hi = 0 then 6 else 0) else askE b true 0

set_option maxHeartbeats 4000000 in
theorem refCut_any (b : Bale) (dv wv : Value) (w : World) (hd : SlD w dv b.draws) (hw : SlW w wv b.weighs) :
    Calls Tryd.prog 40 #[valB b dv wv] w fun e w' => e = .returned (.tuple #[valS (rcutB b), .int .i64 (rcutE b)]) ∧ Ext w w' := by
  have HD := Lib.hid hd
  have HW := Lib.hid hw
  obtain ⟨A, n, cp, rfl, hn, hlc, hcm⟩ := hd.form
  obtain ⟨A2, n2, cp2, rfl, hn2, hlc2, hcm2⟩ := hw.form
  clear hd hw
  go_enter Tryd.func40, Tryd.ntmps40
  go_wp2_with fail
  refine (refAsked_any b _ _ _ ((HD.out.ext (Ext.al _ _)).ext (Ext.al _ _)) ((HW.out.ext (Ext.al _ _)).ext (Ext.al _ _))).mono ?_
  rintro e w2 ⟨sv, lv, rfl, hsl, hE2⟩
  have HE2 := Lib.hid (((Ext.al w _).alloc _ : Ext w _).trans hE2)
  have HBR := Lib.hid ((Blk.at_ (t := 23) (cs := #[.int .i64 0, .int .i64 0]) (w := w.alloc (.cells #[.int .i64 b.id, .int .i64 b.layers, .int .i64 b.dry.lo, .int .i64 b.dry.hi, .slice A n cp, .slice A2 n2 cp2] 27)) (g := w.heap.size + 1) (by simp)).ext hE2)
  clear hE2
  by_cases hz9 : askE b true 0 = 0
  · obtain ⟨hs, hl⟩ := hsl hz9
    obtain ⟨h1, h3⟩ : valid b = true ∧ okB b = true := by
      unfold askE at hz9
      split at hz9
      · simp at hz9; exact ⟨by assumption, hz9⟩
      · cases hz9
    have hb5 := valid_bds h1
    obtain ⟨Al, nl, cl, rfl, hnl, hlc', hlm⟩ := hl.form
    have hln := spans_len b
    have hl0 : 0 < (spans b).length := by have := hb5.l1; omega
    have hl5 : (spans b).length ≤ 5 := by have := hb5.l5; omega
    obtain ⟨As, cs, rfl, hsc, hsm, hcx⟩ := id hs
    obtain ⟨bs, os, rfl, hbs, -⟩ := hcx hl0
    have hbd : ∀ x ∈ spans b, 1 ≤ x.lo ∧ x.lo ≤ 1000 ∧ x.hi ≤ 9 := fun x hx => by have := spans_bd h1 x hx; omega
    have HC := Lib.hid (show rcutB b = rcutS b by unfold rcutB; rw [if_pos hz9])
    have HCE := Lib.hid (show rcutE b = if (rcutS b).hi = 0 then 6 else 0 by unfold rcutE; rw [if_pos hz9])
    have HCS := Lib.hid (show rcutS b = dn (marksB b) 5 from rfl)
    have HS := Lib.hid hs
    have HRA := Lib.hid (fun ob (hbo : bs ≠ ob) W hS hB => rcuts_any (sp := spans b) (bb := bs) (off := os) (cs := cs) (ob := ob) hl5 hbd hbo (spans b).length [] none 0 (fun _ => false) W (by simp) hl0 ⟨_, _, rfl, by simp, by simp [maxLen], by simp⟩ (by simp) hS (by simp) hB)
    have HMB := Lib.hid (show marksB b = rcm (fun _ => false) (exts [] (zOf (spans b))) from rfl)
    generalize hsp : spans b = sp at *
    rw [hz9]
    clear hz9 hs hl hsl hsc hsm hcx hb5 h1 h3 hsp hln hl0 hl5 hbd
    go_wp2_with fail
    have hB7 : Blk (w2.alloc (.cells #[.bool false, .bool false, .bool false, .bool false, .bool false, .bool false] 137)) w2.heap.size 137 (marksV fun _ => false) := Blk.new _ _ _
    refine (HRA.out w2.heap.size (by omega) _ (HS.out.ext (Ext.al _ _)) hB7).mono ?_
    rintro e w3 ⟨⟨v, rfl⟩, g1, g2⟩
    rw [List.length_nil, List.drop_zero, ← HMB.out] at g2
    have HM3 := Lib.hid g2
    have HBR3 := Lib.hid ((HBR.out.alloc _).grown g1 (by have := HBR.out.lt; intro e; injection e with e; omega))
    have HE3 := Lib.hid (ext_grown (HE2.out.alloc _) g1 HE2.out.size)
    have hz3 : w2.heap.size < w3.heap.size := g2.lt
    clear g1 g2 hB7
    show _
    dsimp only
    generalize marksB b = M at *
    go_wp2
    go_loopg [9] 5 (fun gg s9 wr => ∃ k : Nat, k ≤ 5 ∧ k ≤ gg ∧ s9 = .int .i64 k ∧ Aside (Blk wr w3.heap.size 23 #[.int .i64 (dn M (5 - k)).lo, .int .i64 (dn M (5 - k)).hi]) ∧ Aside (Ext w3 wr))
    case atStart => exact ⟨5, by omega, by omega, rfl, Blk.new _ _ _, Ext.al _ _⟩
    case round =>
      obtain ⟨k, hk5, hgg, rfl, BL, EX⟩ := hrel
      have t1 := BL.out.cell 1
      have t0 := BL.out.cell 0
      have tl := BL.out.lt
      have tf := BL.out.frozen
      simp at t0 t1
      have HMW := Lib.hid (HM3.out.ext EX.out)
      have ml := HMW.out.lt
      by_cases hk0 : 0 < k
      · have hkz : (0 : Int) < (k : Int) := by omega
        have hkz0 : (0 : Int) ≤ (k : Int) := by omega
        have hk6 : (k : Int) < 6 := by omega
        have bk : wr.cell? ⟨w2.heap.size, k, none⟩ = some (.bool (M k)) := by
          rw [HMW.out.cell k]
          obtain rfl | rfl | rfl | rfl | rfl : k = 1 ∨ k = 2 ∨ k = 3 ∨ k = 4 ∨ k = 5 := by omega
          all_goals rfl
        obtain ⟨k', rfl⟩ : ∃ k', k = k' + 1 := ⟨k - 1, by omega⟩
        have hdn : dn M (5 - k') = if M (k' + 1) then ⟨((k' + 1 : Nat) : Int), max (dn M (5 - (k' + 1))).hi ((k' + 1 : Nat) : Int)⟩ else dn M (5 - (k' + 1)) := by
          rw [show 5 - k' = (5 - (k' + 1)) + 1 by omega, dn, show 5 - (5 - (k' + 1)) = k' + 1 by omega]
        cases hm : M (k' + 1)
        · rw [hm] at bk hdn
          have HDN := Lib.hid hdn; clear hdn hm
          go_wp2
          go_roundg k'
          case measure => omega
          case rel => exact ⟨k', by omega, by omega, by simp, by show Blk _ _ _ _; rw [HDN.out]; exact BL.out, EX.out⟩
        · rw [hm] at bk hdn
          have HDN := Lib.hid hdn; clear hdn hm
          go_wp2
          go_roundg k'
          case measure => omega
          case rel => exact ⟨k', by omega, by omega, by simp, by
            show Blk _ _ _ _; rw [HDN.out]
            have := (BL.out.set_ 0 (.int .i64 ((k' + 1 : Nat) : Int))).set_ 1 (.int .i64 (max (dn M (5 - (k' + 1))).hi ((k' + 1 : Nat) : Int)))
            simpa using this, (EX.out.setCell (by dsimp only; omega) _).setCell (by dsimp only; omega) _⟩
      · have hk : k = 0 := by omega
        subst hk
        have HL := Lib.hid (show dn M (5 - 0) = rcutS b by rw [HCS.out])
        have HBW := Lib.hid (HBR3.out.ext EX.out)
        rw [HL.out] at t0 t1
        have r0 := HBW.out.cell 0
        have r1 := HBW.out.cell 1
        have rf := HBW.out.frozen
        have rl := HBW.out.lt
        simp at r0 r1
        generalize rcutS b = s at *
        obtain ⟨lo, hi⟩ := s
        by_cases h0 : hi = 0
        · subst h0
          go_wp2
          refine ret_set2 HBW.out fun W ⟨b0, b1⟩ hW => ?_
          refine bodyPost_ret (v := .tuple #[valS ⟨lo, 0⟩, .int .i64 6]) (by simp [results, Tryd.results40, go_sem, b0, b1]) rfl ?_
          exact ⟨by rw [HC.out, HCE.out]; simp, ext_grown (HE3.out.trans EX.out) hW (by omega)⟩
        · have h0' : (hi == 0) = false := by simpa using h0
          go_wp2
          refine ret_set2 HBW.out fun W ⟨b0, b1⟩ hW => ?_
          refine bodyPost_ret (v := .tuple #[valS ⟨lo, hi⟩, .int .i64 0]) (by simp [results, Tryd.results40, go_sem, b0, b1]) rfl ?_
          exact ⟨by rw [HC.out, HCE.out]; simp [h0], ext_grown (HE3.out.trans EX.out) hW (by omega)⟩
  · have HC := Lib.hid (show rcutB b = ⟨0, 0⟩ by unfold rcutB; rw [if_neg hz9])
    have HCE := Lib.hid (show rcutE b = askE b true 0 by unfold rcutE; rw [if_neg hz9])
    generalize hE9 : askE b true 0 = E at hz9
    have HE9 := Lib.hid hE9; clear hE9 hsl
    have hlt := HBR.out.lt
    have b0 := HBR.out.cell 0
    have b1 := HBR.out.cell 1
    have bf := HBR.out.frozen
    simp at b0 b1
    go_wp2
    refine ret_set2 HBR.out fun W ⟨b0, b1⟩ hW => ?_
    refine bodyPost_ret (v := .tuple #[valS ⟨0, 0⟩, .int .i64 E]) (by simp [results, Tryd.results40, go_sem, b0, b1]) rfl ?_
    exact ⟨by rw [HC.out, HCE.out, HE9.out], ext_grown HE2.out hW (by omega)⟩
end Go.Proofs.YtdlipbobfgdleaaDoor
/- The plain law: Cut. -/
namespace Go.Proofs.YtdlipbobfgdleaaDoor
open Go.RowKit Go.Shelf
set_option linter.unusedSimpArgs false

theorem cutFold_flat (s : Span) (ls : List (List Int)) : cutFold s ls = (ls.flatMap cutsL).foldl cutStep s := by
  unfold cutFold
  induction ls generalizing s with
  | nil => rfl
  | cons l ls ih => rw [List.foldl_cons, ih, List.flatMap_cons, List.foldl_append]
theorem cutStep_fold : ∀ (ks : List Int) (s : Span), (ks.foldl cutStep s).lo ≤ s.lo ∧ s.hi ≤ (ks.foldl cutStep s).hi ∧ (∀ k ∈ ks, (ks.foldl cutStep s).lo ≤ k ∧ k ≤ (ks.foldl cutStep s).hi) ∧ ((ks.foldl cutStep s).lo = s.lo ∨ (ks.foldl cutStep s).lo ∈ ks) ∧ ((ks.foldl cutStep s).hi = s.hi ∨ (ks.foldl cutStep s).hi ∈ ks)
  | [], s => ⟨by simp, by simp, by simp, .inl rfl, .inl rfl⟩
  | k :: ks, s => by
    obtain ⟨h1, h2, h3, h4, h5⟩ := cutStep_fold ks (cutStep s k)
    rw [List.foldl_cons]
    generalize ks.foldl cutStep (cutStep s k) = r at *
    have e1 : (cutStep s k).lo = min s.lo k := rfl
    have e2 : (cutStep s k).hi = max s.hi k := rfl
    rw [e1] at h1 h4
    rw [e2] at h2 h5
    refine ⟨by omega, by omega, fun y hy => ?_, ?_, ?_⟩
    · rcases List.mem_cons.1 hy with rfl | hy
      · omega
      · exact h3 y hy
    · rcases h4 with h4 | h4
      · by_cases hk : s.lo ≤ k
        · left; omega
        · right; rw [show r.lo = k by omega]; simp
      · right; simp [h4]
    · rcases h5 with h5 | h5
      · by_cases hk : k ≤ s.hi
        · left; omega
        · right; rw [show r.hi = k by omega]; simp
      · right; simp [h5]
theorem cutsTo_mem {l : List Int} {x : Int} : ∀ m : Nat, x ∈ cutsTo l m ↔ ∃ k : Nat, k < m ∧ cutAt l k = true ∧ x = (k : Int)
  | 0 => by simp [cutsTo]
  | m + 1 => by
    rw [cutsTo, List.mem_append, cutsTo_mem m]
    constructor
    · rintro (⟨k, h1, h2, h3⟩ | h)
      · exact ⟨k, by omega, h2, h3⟩
      · split at h
        · rename_i hc
          simp at h
          exact ⟨m, by omega, hc, h⟩
        · cases h
    · rintro ⟨k, h1, h2, h3⟩
      by_cases hk : k = m
      · subst hk; right; rw [if_pos h2]; simp [h3]
      · left; exact ⟨k, by omega, h2, h3⟩
theorem cutM_iff {l : List Int} (h0 : 0 < l.length) (h : Gr l) (k : Nat) : cutM l k = true ↔ (k : Int) ∈ cutsL l := by
  unfold cutM
  rw [kindR_eq h0 h]
  cases ha : alikeL l with
  | true =>
    have h1 : kindL l = 1 := by unfold kindL; rw [ha]; rfl
    have h2 : cutsL l = [] := by unfold cutsL; rw [ha]; rfl
    rw [h1, h2]; simp
  | false =>
    have h2 : cutsL l = cutsTo l l.length := by unfold cutsL; rw [ha]; rfl
    simp only [Bool.and_eq_true, decide_eq_true_eq]
    rw [h2, cutsTo_mem]
    constructor
    · rintro ⟨-, h3, h4, h5⟩
      exact ⟨k, h4, by rw [← cut_eq h3 h4 h]; exact h5, rfl⟩
    · rintro ⟨k', h3, h4, h5⟩
      obtain rfl : k = k' := by omega
      have h1 : 1 ≤ k := by unfold cutAt at h4; simp at h4; exact h4.1
      refine ⟨?_, h1, h3, by rw [cut_eq h1 h3 h]; exact h4⟩
      unfold kindL
      rw [ha, if_neg (by simp), if_pos]
      rw [h2]
      exact cutsTo_pos _ |>.2 ⟨k, h3, h4⟩
theorem truths_gr {b : Bale} (hv : valid b = true) : ∀ l ∈ truthsB b, l.length = b.layers.toNat ∧ Gr l := by
  intro l hl
  unfold truthsB at hl
  have hB := valid_bds hv
  have hlen := spans_len b
  obtain ⟨h1, h2⟩ := truthsL_mem hl
  refine ⟨by rw [h1, List.length_zip]; have := hB.l5; simp; omega, fun n hn => ?_⟩
  obtain ⟨y, hy, h3⟩ := h2 n hn
  have := spans_bd hv y.1 (List.of_mem_zip hy).1
  omega
theorem marks_iff {b : Bale} (hv : valid b = true) (k : Nat) : marksB b k = true ↔ (k : Int) ∈ (truthsB b).flatMap cutsL := by
  have hB := valid_bds hv
  have hlen := spans_len b
  unfold marksB rcm
  rw [exts_nil, zOf_zip (by have := hB.l5; omega)]
  show (false || (truthsB b).any _) = true ↔ _
  rw [Bool.false_or, List.any_eq_true, List.mem_flatMap]
  constructor
  · rintro ⟨l, hl, h⟩
    obtain ⟨h1, h2⟩ := truths_gr hv l hl
    exact ⟨l, hl, (cutM_iff (by have := hB.l1; omega) h2 k).1 h⟩
  · rintro ⟨l, hl, h⟩
    obtain ⟨h1, h2⟩ := truths_gr hv l hl
    exact ⟨l, hl, (cutM_iff (by have := hB.l1; omega) h2 k).2 h⟩
theorem cutsL_bd {l : List Int} {x : Int} (h : x ∈ cutsL l) : ∃ k : Nat, 1 ≤ k ∧ k < l.length ∧ x = (k : Int) := by
  unfold cutsL at h
  split at h
  · cases h
  · obtain ⟨k, h1, h2, h3⟩ := (cutsTo_mem _).1 h
    refine ⟨k, ?_, h1, h3⟩
    unfold cutAt at h2; simp at h2; exact h2.1
theorem cut_law {b : Bale} (hv : valid b = true) : rcutS b = if (cutS b).hi = 0 then ⟨0, 0⟩ else cutS b := by
  have hB := valid_bds hv
  have hl5 := hB.l5
  unfold rcutS cutS
  rw [cutFold_flat]
  have hbd : ∀ x ∈ (truthsB b).flatMap cutsL, 1 ≤ x ∧ x ≤ 4 ∧ x < b.layers := by
    intro x hx
    obtain ⟨l, hl, h⟩ := List.mem_flatMap.1 hx
    obtain ⟨h1, h2⟩ := truths_gr hv l hl
    obtain ⟨k, h3, h4, h5⟩ := cutsL_bd h
    omega
  have m1 := marks_iff hv 1
  have m2 := marks_iff hv 2
  have m3 := marks_iff hv 3
  have m4 := marks_iff hv 4
  have m5 := marks_iff hv 5
  generalize (truthsB b).flatMap cutsL = ks at *
  generalize marksB b = M at *
  obtain ⟨h1, h2, h3, h4, h5⟩ := cutStep_fold ks ⟨b.layers, 0⟩
  generalize ks.foldl cutStep ⟨b.layers, 0⟩ = r at *
  obtain ⟨lo, hi⟩ := r
  dsimp only at h1 h2 h3 h4 h5 ⊢
  have q5 : M 5 = false := by
    cases h : M 5
    · rfl
    · have := hbd _ (m5.1 h); simp at this
  have lo_m : lo ∈ ks → lo = 1 ∧ M 1 = true ∨ lo = 2 ∧ M 2 = true ∨ lo = 3 ∧ M 3 = true ∨ lo = 4 ∧ M 4 = true := by
    intro h
    have := hbd _ h
    have hc : lo = 1 ∨ lo = 2 ∨ lo = 3 ∨ lo = 4 := by omega
    rcases hc with e | e | e | e <;> subst e
    · exact .inl ⟨rfl, m1.2 h⟩
    · exact .inr (.inl ⟨rfl, m2.2 h⟩)
    · exact .inr (.inr (.inl ⟨rfl, m3.2 h⟩))
    · exact .inr (.inr (.inr ⟨rfl, m4.2 h⟩))
  have hi_m : hi ∈ ks → hi = 1 ∧ M 1 = true ∨ hi = 2 ∧ M 2 = true ∨ hi = 3 ∧ M 3 = true ∨ hi = 4 ∧ M 4 = true := by
    intro h
    have := hbd _ h
    have hc : hi = 1 ∨ hi = 2 ∨ hi = 3 ∨ hi = 4 := by omega
    rcases hc with e | e | e | e <;> subst e
    · exact .inl ⟨rfl, m1.2 h⟩
    · exact .inr (.inl ⟨rfl, m2.2 h⟩)
    · exact .inr (.inr (.inl ⟨rfl, m3.2 h⟩))
    · exact .inr (.inr (.inr ⟨rfl, m4.2 h⟩))
  have b1 : M 1 = true → lo ≤ 1 ∧ 1 ≤ hi ∧ 1 < b.layers := fun h => ⟨(h3 _ (m1.1 h)).1, (h3 _ (m1.1 h)).2, (hbd _ (m1.1 h)).2.2⟩
  have b2 : M 2 = true → lo ≤ 2 ∧ 2 ≤ hi ∧ 2 < b.layers := fun h => ⟨(h3 _ (m2.1 h)).1, (h3 _ (m2.1 h)).2, (hbd _ (m2.1 h)).2.2⟩
  have b3 : M 3 = true → lo ≤ 3 ∧ 3 ≤ hi ∧ 3 < b.layers := fun h => ⟨(h3 _ (m3.1 h)).1, (h3 _ (m3.1 h)).2, (hbd _ (m3.1 h)).2.2⟩
  have b4 : M 4 = true → lo ≤ 4 ∧ 4 ≤ hi ∧ 4 < b.layers := fun h => ⟨(h3 _ (m4.1 h)).1, (h3 _ (m4.1 h)).2, (hbd _ (m4.1 h)).2.2⟩
  have lo2 : lo = b.layers ∨ (lo = 1 ∧ M 1 = true ∨ lo = 2 ∧ M 2 = true ∨ lo = 3 ∧ M 3 = true ∨ lo = 4 ∧ M 4 = true) := h4.imp id lo_m
  have hi2 : hi = 0 ∨ (hi = 1 ∧ M 1 = true ∨ hi = 2 ∧ M 2 = true ∨ hi = 3 ∧ M 3 = true ∨ hi = 4 ∧ M 4 = true) := h5.imp id hi_m
  clear h3 h4 h5 lo_m hi_m m1 m2 m3 m4 m5 hbd
  simp only [dn]
  rw [show 5 - 0 = 5 from rfl, show 5 - 1 = 4 from rfl, show 5 - 2 = 3 from rfl, show 5 - 3 = 2 from rfl, show 5 - 4 = 1 from rfl, q5]
  cases e1 : M 1 <;> cases e2 : M 2 <;> cases e3 : M 3 <;> cases e4 : M 4 <;> simp only [e1, e2, e3, e4] at b1 b2 b3 b4 lo2 hi2 <;> simp at b1 b2 b3 b4 lo2 hi2 ⊢ <;> (try split) <;> (try simp only [Span.mk.injEq]) <;> omega
theorem cut_same (b : Bale) : rcutB b = cutB b ∧ rcutE b = cutE b := by
  unfold rcutB cutB rcutE cutE
  by_cases hz : askE b true 0 = 0
  · obtain ⟨h1, h3⟩ : valid b = true ∧ okB b = true := by
      unfold askE at hz
      split at hz
      · simp at hz; exact ⟨by assumption, hz⟩
      · cases hz
    rw [if_pos hz, if_pos hz, if_pos hz, if_pos hz, cut_law h1]
    refine ⟨rfl, ?_⟩
    by_cases h0 : (cutS b).hi = 0
    · simp [h0]
    · simp [h0]
  · simp [hz]
end Go.Proofs.YtdlipbobfgdleaaDoor
