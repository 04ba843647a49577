/- core.cuts once more: its list lies in new memory. -/
import Derived.Test.YtfhmfbhpehldpaaGreatDoorPkMoreOB
import Derived.Test.YtfhmfbhpehldpaaGreatDoorPkMoreOK
import Derived.Test.YtfhmfbhpehldpaaGreatDoorPkMoreOJ
import Derived.Test.YtfhmfbhpehldpaaGreatDoorPkMoreOD
import Derived.LoopIn
namespace Go.Proofs.YtfhmfbhpehldpaaGreatDoor
open Go.RowKit Go.Shelf
set_option maxRecDepth 100000
set_option linter.unusedSimpArgs false

set_option maxHeartbeats 1000000 in
theorem cutsOwn_any (l : List Int) (v : Value) (w : World) (hs : SlI w v l) (h0 : 0 < l.length) (hlen : l.length ≤ 1000) (hb : Small l) :
    Calls Tryz.prog 58 #[v] w fun e w' => ∃ v', e = .returned v' ∧ Own encI 3 1 w' w.heap.size v' (cutsL l) ∧ Ext w w' := by
  have HS := Lib.hid hs
  obtain ⟨A, n, c, rfl, hn, hlc, hcm⟩ := hs.form
  have hn0 : 0 < n := by have := hn.out; omega
  obtain ⟨b, off, x, rfl, -, -, -⟩ := hs.at_ hn0
  have hn1000 : n ≤ 1000 := by have := hn.out; omega
  have HB := Lib.hid hb; have H0 := Lib.hid h0
  clear hs hb h0 hlen
  have hcm' : c ≤ maxLen := hcm
  go_enter Tryz.func58, Tryz.ntmps58
  go_wp2
  cases hal : alikeL l with
  | true =>
    have HAL := Lib.hid hal
    clear hal
    go_loopg [3, 4] 1 (fun gg s3 s4 wr => s4 = .int .i64 1 ∧ s3 = .slice none 0 0 ∧ Aside (Ext w wr))
    case atStart => exact ⟨rfl, rfl, Ext.refl _⟩
    case round =>
      obtain ⟨rfl, rfl, BW⟩ := hrel
      have hfin : ∀ W, Own encI 3 1 W w.heap.size (.slice none 0 0) (cutsL l) := fun W => by unfold cutsL; rw [if_pos HAL.out]; exact Own.nil _ _
      have HFI := Lib.hid hfin; clear hfin
      by_cases h1 : 1 < n
      · have h1z : (1 : Int) < (n : Int) := by omega
        go_wp2_with fail
        refine (alike_any l _ _ (HS.out.ext BW.out) H0.out HB.out).mono ?_
        rintro e w1 ⟨rfl, hE⟩
        rw [HAL.out]
        go_wp2
        go_ret
        exact ⟨_, rfl, HFI.out _, BW.out.trans hE⟩
      · have h1z : ¬ (1 : Int) < (n : Int) := by omega
        go_wp2
        go_ret
        exact ⟨_, rfl, HFI.out _, BW.out⟩
  | false =>
    have HAL := Lib.hid hal
    clear hal
    go_loopg [3, 4] n (fun gg s3 s4 wr => ∃ kk : Nat, 1 ≤ kk ∧ kk ≤ n ∧ n - kk ≤ gg ∧ s4 = .int .i64 kk ∧ Aside (Own encI 3 1 wr w.heap.size s3 (cutsTo l kk)) ∧ Aside (Ext w wr))
    case atStart => exact ⟨1, by omega, by omega, by omega, rfl, Own.nil _ _, Ext.refl _⟩
    case round =>
      obtain ⟨kk, h1, hkk, hg, rfl, OW, BW⟩ := hrel
      by_cases hlt : kk < n
      · have hltz : (kk : Int) < (n : Int) := by omega
        have hkz : (0 : Int) ≤ (kk : Int) := by omega
        have hkc : (kk : Int) ≤ (c : Int) := by omega
        have hnc : ¬ (c = kk) := by omega
        have T1 := Lib.hid (HS.out.take (k := kk) (c' := c) (by omega) (by omega) hcm')
        have T2 := Lib.hid (show SlI w (.slice (some ⟨b, off + kk, none⟩) (n - kk) (c - kk)) (l.drop kk) by simpa only [Nat.mul_one] using HS.out.drop (k := kk) (c' := c - kk) (by omega) (by omega))
        have L1 := Lib.hid (show 0 < (l.take kk).length by rw [List.length_take]; have := hn.out; omega)
        have L2 := Lib.hid (show 0 < (l.drop kk).length by rw [List.length_drop]; have := hn.out; omega)
        have HCU := Lib.hid (show cutAt l kk = (alikeL (l.take kk) && alikeL (l.drop kk)) by unfold cutAt; rw [decide_eq_true h1, Bool.true_and])
        go_wp2_with fail
        refine (alike_any l _ _ (HS.out.ext BW.out) H0.out HB.out).mono ?_
        rintro e w1 ⟨rfl, hE⟩
        rw [HAL.out]
        have E1 := Lib.hid (BW.out.trans hE)
        have O1 := Lib.hid (OW.out.ext hE)
        clear hE BW OW
        go_wp2_with fail
        refine (alike_any (l.take kk) _ _ (T1.out.ext E1.out) L1.out (HB.out.take kk)).mono ?_
        rintro e w2 ⟨rfl, hE⟩
        have E2 := Lib.hid (E1.out.trans hE)
        have O2 := Lib.hid (O1.out.ext hE)
        clear hE O1 E1
        cases ha1 : alikeL (l.take kk) with
        | false =>
          have HC1 := Lib.hid (show cutsTo l (kk + 1) = cutsTo l kk by rw [cutsTo, HCU.out, ha1]; simp)
          clear ha1
          go_wp2
          go_roundg (n - (kk + 1))
          case measure => omega
          case rel => exact ⟨kk + 1, by omega, by omega, by omega, rfl, by rw [HC1.out]; exact O2.out, E2.out⟩
        | true =>
          have HA1 := Lib.hid ha1
          clear ha1
          go_wp2_with fail
          refine (alike_any (l.drop kk) _ _ (T2.out.ext E2.out) L2.out (HB.out.drop kk)).mono ?_
          rintro e w3 ⟨rfl, hE⟩
          have E3 := Lib.hid (E2.out.trans hE)
          have O3 := Lib.hid (O2.out.ext hE)
          clear hE O2 E2
          cases ha2 : alikeL (l.drop kk) with
          | false =>
            have HC1 := Lib.hid (show cutsTo l (kk + 1) = cutsTo l kk by rw [cutsTo, HCU.out, HA1.out, ha2]; simp)
            clear ha2
            go_wp2
            go_roundg (n - (kk + 1))
            case measure => omega
            case rel => exact ⟨kk + 1, by omega, by omega, by omega, rfl, by rw [HC1.out]; exact O3.out, E3.out⟩
          | true =>
            have HC1 := Lib.hid (show cutsTo l (kk + 1) = cutsTo l kk ++ [(kk : Int)] by rw [cutsTo, HCU.out, HA1.out, ha2]; simp)
            have HCL := Lib.hid (cutsTo_len l kk)
            clear ha2
            go_wp2_with (at_builtin; refine wpList_app encI 55 3 1 _ 8 Tryz.underlying55 info3x rfl (by decide) (by decide) (fun _ => rfl) encI_one rfl (.tmp 26) (.tmp 28) rfl w.heap.size _ (cutsTo l kk) rfl (O3.out.alloc _) w3.heap.size 1 (kk : Int) rfl (cells1 (by simp [go_sem])) (by have := HCL.out; omega) (by have := E3.out.size; simp; omega) ?_)
            intro g cap w' hown hg2 hbel _
            have HO := Lib.hid hown; clear hown
            have HBE := Lib.hid (show Ext w w' from Below.trans (E3.out.alloc _) hbel); clear hbel
            go_wp2
            go_roundg (n - (kk + 1))
            case measure => omega
            case rel => exact ⟨kk + 1, by omega, by omega, by omega, rfl, by rw [HC1.out]; exact HO.out, HBE.out⟩
      · have HKE := Lib.hid (show cutsL l = cutsTo l kk by unfold cutsL; rw [HAL.out, show l.length = kk by have := hn.out; omega]; rfl)
        go_wp2
        go_ret
        exact ⟨_, rfl, by rw [HKE.out]; exact OW.out, BW.out⟩
theorem Own.block_ge {W : World} {base n c : Nat} {A : Option Addr} {l : List Int} (h : Own encI 3 1 W base (.slice A n c) l) : ∀ b o, A = some ⟨b, o, none⟩ → base ≤ b := by
  rcases h.2 with ⟨hv, _⟩ | ⟨g, cap, _, hv, hg, _⟩
  · injection hv with e1 e2 e3
    subst e1
    intro b o e; cases e
  · injection hv with e1 e2 e3
    subst e1
    intro b o e
    injection e with e; injection e with e1 e2
    omega
end Go.Proofs.YtfhmfbhpehldpaaGreatDoor
/- core.Kind. -/
namespace Go.Proofs.YtfhmfbhpehldpaaGreatDoor
open Go.RowKit Go.Shelf
set_option maxRecDepth 100000
set_option linter.unusedSimpArgs false

theorem f44_any (r : Int) (g : Nat) (w : World) (h1 : w.cell? ⟨g, 0, none⟩ = some (.int .i64 r)) :
    Calls Tryz.prog 44 #[.pointer (some ⟨g, 0, none⟩)] w fun e w' => e = .returned (.bool (inB 1 4 r)) ∧ Ext w w' := by
  go_enter Tryz.func44, Tryz.ntmps44
  go_wp2_with fail
  refine (in1_any 1 4 r _ _ (by simp) (by simp [go_sem])).mono ?_
  rintro e w1 ⟨rfl, hb⟩
  have HB := Lib.hid hb; clear hb
  go_wp2
  go_ret
  exact ⟨rfl, (Ext.al _ _).trans HB.out⟩

set_option maxHeartbeats 4000000 in
theorem kindC_any (b : Bale) (r : Int) (dv wv : Value) (w : World) (hT : Tab w) (hd : SlD w dv b.draws) (hw : SlW w wv b.weighs) :
    Calls Tryz.prog 14 #[valB b dv wv, .int .i64 r] w fun e w' => e = .returned (.tuple #[.int .u8 (kindB b r), .int .i64 (askE b (inB 1 4 r) 32)]) ∧ Ext w w' := by
  have HT := Lib.hid hT
  have HD := Lib.hid hd
  have HW := Lib.hid hw
  obtain ⟨A, n, cp, rfl, hn, hlc, hcm⟩ := hd.form
  obtain ⟨A2, n2, cp2, rfl, hn2, hlc2, hcm2⟩ := hw.form
  clear hd hw hT
  go_enter Tryz.func14, Tryz.ntmps14
  go_wp2_with fail
  refine (asked_fn b _ _ _ 44 _ (enters_of Tryz.func44 (by kernel_rfl) rfl) (inB 1 4 r) 32 (by decide) (fun hv W hW => f44_any r _ W ((hW.cell (p := ⟨w.heap.size + 1, 0, none⟩) (by simp)).trans (by simp [go_sem]))) ((HT.out.ext (Ext.al _ _)).ext (Ext.al _ _)) ((HD.out.ext (Ext.al _ _)).ext (Ext.al _ _)) ((HW.out.ext (Ext.al _ _)).ext (Ext.al _ _))).mono ?_
  rintro e w1 ⟨pv, rfl, hpv, hpz, hE⟩
  have HEW := Lib.hid (((Ext.al w _).alloc _ : Ext w _).trans hE)
  have HBD := Lib.hid ((Blk.at_ (t := 3) (cs := #[.int .i64 r]) (w := w.alloc (.cells #[.int .i64 b.id, .int .i64 b.layers, .int .i64 b.dry.lo, .int .i64 b.dry.hi, .slice A n cp, .slice A2 n2 cp2] 27)) (g := w.heap.size + 1) (by simp)).ext hE)
  clear hE
  by_cases hz9 : askE b (inB 1 4 r) 32 = 0
  · obtain ⟨sv, lv, rfl, hs, hl⟩ := hpv hz9
    obtain ⟨h1, h2, h3⟩ := askE_zero hz9 (by decide)
    have hb5 := valid_bds h1
    have hr : 1 ≤ r ∧ r ≤ 4 := by unfold inB at h2; simpa using h2
    have HK := Lib.hid (show kindB b r = kindK (kindS b) r by unfold kindB; rw [if_pos hz9])
    have HZ := Lib.hid hz9
    obtain ⟨Al, nl, cl, rfl, hnl, hlc', hlm⟩ := hl.form
    have hln := spans_len b
    have hl0 : 0 < (spans b).length := by have := hb5.l1; omega
    have hl5 : (spans b).length ≤ 5 := by have := hb5.l5; omega
    obtain ⟨As, cs, rfl, hsc, hsm, hcx⟩ := id hs
    obtain ⟨bs, os, rfl, -, -⟩ := hcx hl0
    have HS := Lib.hid hs
    have hbd : ∀ x ∈ spans b, 0 ≤ x.lo ∧ x.lo ≤ 1000 ∧ x.hi ≤ 1000 := fun x hx => by have := spans_bd h1 x hx; omega
    have HMA := Lib.hid (fun W hS => kinds_any b (.slice A n cp) (.slice A2 n2 cp2) (.slice Al nl cl) bs os cs (spans b) 0 0 0 0 0 W hl5 hl0 hbd hS)
    generalize hsp : spans b = sp at *
    have HSP := Lib.hid hsp
    rw [hz9]
    dsimp only [valP]
    clear hz9 hs hl hsc hsm hcx hbd hb5 h1 h2 h3 hpv hpz hsp hln hl0 hl5
    have hlt := HBD.out.lt
    have d0 := HBD.out.cell 0
    simp at d0
    go_wp2_with fail
    refine (HMA.out _ (HS.out.ext (Ext.al _ _))).mono ?_
    rintro e w5 ⟨m, rfl, hmi, hE5⟩
    have HB5 := Lib.hid ((HBD.out.alloc _).ext hE5)
    have HE5 := Lib.hid ((HEW.out.trans (Ext.al _ _)).trans hE5); clear hE5
    have HKS := Lib.hid (show kindS b = kindsOf (truthsL (sp.zip [0, 0, 0, 0, 0])) by unfold kindS; rw [HSP.out])
    generalize kindsOf (truthsL (sp.zip [0, 0, 0, 0, 0])) = s at *
    have lk := hmi.look hr.1 hr.2
    have ln := hmi.len 3
    have hnm := S4.num_le s
    have e0 := HB5.out.cell 0
    simp at e0
    clear hmi d0
    cases hh : s.has r with
    | false =>
      rw [hh] at lk
      have HKK := Lib.hid (show kindK s r = 0 by unfold kindK; rw [hh]; rfl)
      go_wp2
      refine bodyPost_ret (v := .tuple #[.int .u8 0, .int .i64 0]) (by simp [results, Tryz.results14, go_sem]) rfl ?_
      exact ⟨by rw [HK.out, HZ.out, HKS.out, HKK.out], HE5.out⟩
    | true =>
      rw [hh] at lk
      by_cases hn1 : s.num = 1
      · have HKK := Lib.hid (show kindK s r = 2 by unfold kindK; rw [hh, hn1]; rfl)
        rw [hn1] at ln
        clear hn1 hnm
        go_wp2
        refine bodyPost_ret (v := .tuple #[.int .u8 2, .int .i64 0]) (by simp [results, Tryz.results14, go_sem]) rfl ?_
        exact ⟨by rw [HK.out, HZ.out, HKS.out, HKK.out], HE5.out⟩
      · have HKK := Lib.hid (show kindK s r = 1 by unfold kindK; rw [if_pos hh, if_neg hn1])
        have hn2 : ¬ ((s.num : Int) = 1) := by omega
        clear hn1
        go_wp2
        refine bodyPost_ret (v := .tuple #[.int .u8 1, .int .i64 0]) (by simp [results, Tryz.results14, go_sem]) rfl ?_
        exact ⟨by rw [HK.out, HZ.out, HKS.out, HKK.out], HE5.out⟩
  · have HK := Lib.hid (show kindB b r = 0 by unfold kindB; rw [if_neg hz9])
    obtain rfl := hpz hz9
    generalize hE9 : askE b (inB 1 4 r) 32 = E at hz9
    have HE9 := Lib.hid hE9; clear hE9 hpv hpz
    have HE1 := Lib.hid (HEW.out.alloc (.cells #[.int .i64 0, .int .i64 0, .int .i64 0, .int .i64 0, .slice none 0 0, .slice none 0 0, .slice none 0 0, .slice none 0 0] 73))
    go_wp2
    refine bodyPost_ret (v := .tuple #[.int .u8 0, .int .i64 E]) (by simp [results, Tryz.results14, go_sem]) rfl ?_
    exact ⟨by rw [HK.out, HE9.out], HE1.out⟩
end Go.Proofs.YtfhmfbhpehldpaaGreatDoor
/- core.Cut. -/
namespace Go.Proofs.YtfhmfbhpehldpaaGreatDoor
open Go.RowKit Go.Shelf Go.Lib
set_option maxRecDepth 100000
set_option linter.unusedSimpArgs false
attribute [local go_sem] Oper.semAt_some

def cutStep (s : Span) (k : Int) : Span := ⟨min s.lo k, max s.hi k⟩
def cutFold (s : Span) (ls : List (List Int)) : Span := ls.foldl (fun s l => (cutsL l).foldl cutStep s) s
theorem cutFold_snoc (s : Span) (ls : List (List Int)) (l : List Int) : cutFold s (ls ++ [l]) = (cutsL l).foldl cutStep (cutFold s ls) := by unfold cutFold; rw [List.foldl_append]; rfl
/-- All truths of a bale. -/
def truthsB (b : Bale) : List (List Int) := truthsL ((spans b).zip [0, 0, 0, 0, 0])
def cutS (b : Bale) : Span := cutFold ⟨b.layers, 0⟩ (truthsB b)
def cutB (b : Bale) : Span := if askE b true 0 = 0 then (if (cutS b).hi = 0 then ⟨0, 0⟩ else cutS b) else ⟨0, 0⟩
def cutE (b : Bale) : Int := if askE b true 0 = 0 then (if (cutS b).hi = 0 then 6 else 0) else askE b true 0

theorem cutsL_len (l : List Int) : (cutsL l).length ≤ l.length := by
  unfold cutsL
  split
  · simp
  · exact cutsTo_len _ _
theorem keep_set {n₀ g : Nat} (A : World) {p : Addr} (hp : p.block = g) (hn : n₀ ≤ g) (u : Value) : Keep n₀ (fun k => k = g) A (A.setCell p u) :=
  ⟨(Below.refl _ A).setCell (by omega) u, fun i _ hx _ => Below.heap_setCell A p u i (by intro e; exact hx (by omega))⟩
theorem Blk.turn {s g : Nat} {t : TypeId} {cs : Array Value} {A B : World} (h : Blk A g t cs) (k : Turn s A B) (h1 : g ≠ s) (h2 : g ≠ s + 1) : Blk B g t cs := (k.block g h.lt h1 h2).trans h
theorem Blk.keep {n₀ g : Nat} {X : Nat → Prop} {t : TypeId} {cs : Array Value} {A B : World} (h : Blk A g t cs) (k : Keep n₀ X A B) (hx : ¬ X g) : Blk B g t cs := (k.c g h.lt hx ⟨_, _, _, h⟩).trans h

set_option maxHeartbeats 4000000 in
theorem cut_any (b : Bale) (dv wv : Value) (w : World) (hT : Tab w) (hd : SlD w dv b.draws) (hw : SlW w wv b.weighs) :
    Calls Tryz.prog 21 #[valB b dv wv] w fun e w' => e = .returned (.tuple #[valS (cutB b), .int .i64 (cutE b)]) ∧ Ext w w' := by
  have HT := Lib.hid hT
  have HD := Lib.hid hd
  have HW := Lib.hid hw
  obtain ⟨A, n, cp, rfl, hn, hlc, hcm⟩ := hd.form
  obtain ⟨A2, n2, cp2, rfl, hn2, hlc2, hcm2⟩ := hw.form
  clear hd hw hT
  refine calls_of_wp_marks Tryz.func21 rfl ?_
  simp only [Tryz.ntmps21, List.size_toArray, List.length_cons, List.length_nil, Nat.reduceAdd, Nat.reduceSub, Array.replicate_succ, Array.replicate_zero, List.push_toArray, List.append_toArray, List.nil_append, List.cons_append]
  go_wp2_with fail
  refine (asked_nil b _ _ _ ((HT.out.ext (Ext.al _ _)).ext (Ext.al _ _)) ((HD.out.ext (Ext.al _ _)).ext (Ext.al _ _)) ((HW.out.ext (Ext.al _ _)).ext (Ext.al _ _))).mono ?_
  rintro e w1 ⟨pv, rfl, hpv, hpz, hE⟩
  have HEW := Lib.hid (((Ext.al w _).alloc _ : Ext w _).trans hE)
  have HBR := Lib.hid ((Blk.at_ (t := 23) (cs := #[.int .i64 0, .int .i64 0]) (w := w.alloc (.cells #[.int .i64 b.id, .int .i64 b.layers, .int .i64 b.dry.lo, .int .i64 b.dry.hi, .slice A n cp, .slice A2 n2 cp2] 27)) (g := w.heap.size + 1) (by simp)).ext hE)
  clear hE
  by_cases hz9 : askE b true 0 = 0
  · obtain ⟨sv, lv, rfl, hs, hl⟩ := hpv hz9
    obtain ⟨h1, h3⟩ : valid b = true ∧ okB b = true := by
      unfold askE at hz9
      split at hz9
      · simp at hz9; exact ⟨by assumption, hz9⟩
      · cases hz9
    have hb5 := valid_bds h1
    obtain ⟨Al, nl, cl, rfl, hnl, hlc', hlm⟩ := hl.form
    have hln := spans_len b
    have hl0 : 0 < (spans b).length := by have := hb5.l1; omega
    have hl5 : (spans b).length ≤ 5 := by have := hb5.l5; omega
    obtain ⟨As, cs, rfl, hsc, hsm, hcx⟩ := id hs
    obtain ⟨bs, os, rfl, hbs, -⟩ := hcx hl0
    have HBD := Lib.hid (show ∀ x ∈ spans b, 1 ≤ x.lo ∧ x.lo ≤ 9 ∧ x.hi ≤ 9 ∧ 1 ≤ x.hi from fun x hx => spans_bd h1 x hx)
    have HC := Lib.hid (show cutB b = if (cutS b).hi = 0 then ⟨0, 0⟩ else cutS b by unfold cutB; rw [if_pos hz9])
    have HCE := Lib.hid (show cutE b = if (cutS b).hi = 0 then 6 else 0 by unfold cutE; rw [if_pos hz9])
    have HCS := Lib.hid (show cutS b = cutFold ⟨b.layers, 0⟩ (truthsL ((spans b).zip [0, 0, 0, 0, 0])) from rfl)
    have HS := Lib.hid hs
    have HL0 := Lib.hid hl0; have HL5 := Lib.hid hl5
    have HBS := Lib.hid hbs
    generalize hsp : spans b = sp at *
    rw [hz9]
    dsimp only [valP]
    clear hz9 hs hl hsc hsm hcx hb5 h1 h3 hpv hpz hsp hln hl0 hl5 hbs
    have hlt := HBR.out.lt
    have b0 := HBR.out.cell 0
    have b1 := HBR.out.cell 1
    have bf := HBR.out.frozen
    simp at b0 b1
    go_wp2_with fail
    refine (truths_any b _ _ _ _ _ _ _ _ _ _).mono ?_
    rintro e w6 ⟨rfl, hw6⟩
    have HW6 := Lib.hid hw6; clear hw6
    go_wp2_with fail
    have hw6 := HW6.out
    have hE6 : Ext (w1.alloc (.cells #[.int .i64 b.id, .int .i64 b.layers, .int .i64 b.dry.lo, .int .i64 b.dry.hi, .slice A n cp, .slice A2 n2 cp2, .slice (some ⟨bs, os, none⟩) sp.length cs, .slice Al nl cl] 73)) w6 := by rw [hw6]; exact ((Ext.al _ _).alloc _).alloc _
    have E16 : Ext w1 w6 := (Ext.al _ _).trans hE6
    have hz6 : w6.heap.size = w1.heap.size + 4 := by rw [hw6]; simp
    have hB6 : Blk w6 (w1.heap.size + 1) 23 #[.int .i64 b.layers, .int .i64 0] := by
      rw [hw6]; exact ((Blk.at_ (t := 23) (cs := #[.int .i64 b.layers, .int .i64 0]) (by simp)).alloc _).alloc _
    have hPM : PM (w1.heap.size + 1 + 1) bs os (w1.heap.size + 1 + 1 + 1) cs sp [0, 0, 0, 0, 0] w6 := by
      have hb6 : Blk w6 (w1.heap.size + 1 + 1) 73 #[.int .i64 b.id, .int .i64 b.layers, .int .i64 b.dry.lo, .int .i64 b.dry.hi, .slice A n cp, .slice A2 n2 cp2, .slice (some ⟨bs, os, none⟩) sp.length cs, .slice Al nl cl] := by rw [hw6]; exact (Blk.at_ (by simp)).alloc _
      have hs6 : Blk w6 (w1.heap.size + 1 + 1 + 1) 82 #[.int .i64 0, .int .i64 0, .int .i64 0, .int .i64 0, .int .i64 0] := by rw [hw6]; exact Blk.at_ (by simp)
      refine ⟨hb6.cell 6, fun i x hx => ?_, fun i n hn => ?_⟩
      · obtain ⟨b', off', x', e1, hx', _, hc⟩ := HS.out.at_ (show i < sp.length from (List.getElem?_eq_some_iff.1 hx).1)
        injection e1 with e1
        injection e1 with e1 e2
        subst e1 e2
        rw [hx] at hx'
        injection hx' with hx'
        subst hx'
        exact SlS.cells hc E16
      · have := hs6.cell i
        match i, hn with
        | 0, hn => simp at hn; subst hn; exact this
        | 1, hn => simp at hn; subst hn; exact this
        | 2, hn => simp at hn; subst hn; exact this
        | 3, hn => simp at hn; subst hn; exact this
        | 4, hn => simp at hn; subst hn; exact this
    have HBR6 := Lib.hid (HBR.out.ext E16)
    have HEW6 := Lib.hid (HEW.out.trans E16)
    have HB6 := Lib.hid hB6
    have HZ6 := Lib.hid hz6
    have hwz := HEW6.out.size
    have HLT := Lib.hid hlt
    clear hw6 HW6 hE6 E16 b0 b1 bf
    refine wp_rangeFunc (by rfl) (enters_of Tryz.func82 (by kernel_rfl) rfl) (truths_seqs (w := w6) (X := fun k => k = w1.heap.size + 1) (n₀ := w.heap.size) HL5.out rfl (fun x hx => by have := HBD.out x hx; omega) (fun k h => by omega) (by omega) (by have := HBS.out; omega) (by omega) (by omega) hPM) (Ext.refl _) (by omega)
      (fun x v W r o h hr => sl_put h hr)
      (fun pre W => Blk W (w1.heap.size + 1) 23 #[.int .i64 (cutFold ⟨b.layers, 0⟩ pre).lo, .int .i64 (cutFold ⟨b.layers, 0⟩ pre).hi] ∧ Blk W (w.heap.size + 1) 23 #[.int .i64 0, .int .i64 0] ∧ Below w.heap.size w W)
      (fun _ _ _ => False)
      ?_ ?_ ?_ (fun v => { tmps := #[(valB b (.slice A n cp) (.slice A2 n2 cp2)), .pointer (some ⟨w.heap.size, 0, none⟩), .pointer (some ⟨w.heap.size + 1, 0, none⟩), .int .i64 0, .pointer (some ⟨w1.heap.size, 0, none⟩), .int .i64 0, .pointer (some ⟨w1.heap.size + 1, 0, none⟩), v, undef, undef, .tuple #[(valP b (.slice A n cp) (.slice A2 n2 cp2) (.slice (some ⟨bs, os, none⟩) sp.length cs) (.slice Al nl cl)), .int .i64 0], (valB b (.slice A n cp) (.slice A2 n2 cp2)), .tuple #[(valP b (.slice A n cp) (.slice A2 n2 cp2) (.slice (some ⟨bs, os, none⟩) sp.length cs) (.slice Al nl cl)), .int .i64 0], (valP b (.slice A n cp) (.slice A2 n2 cp2) (.slice (some ⟨bs, os, none⟩) sp.length cs) (.slice Al nl cl)), .int .i64 0, .int .i64 0, .bool false, undef, undef, .pointer (some ⟨w1.heap.size, 0, none⟩), .pointer (some ⟨w1.heap.size, 1, none⟩), .int .i64 b.layers, .agg #[.int .i64 b.layers, .int .i64 0], (valP b (.slice A n cp) (.slice A2 n2 cp2) (.slice (some ⟨bs, os, none⟩) sp.length cs) (.slice Al nl cl)), .agg #[.int .i64 0, .int .i64 0, .int .i64 0, .int .i64 0, .int .i64 0], .func (.func 82) #[] #[.pointer (some ⟨w1.heap.size + 1 + 1, 0, none⟩), .pointer (some ⟨w1.heap.size + 1 + 1 + 1, 0, none⟩)], v, undef, undef, undef, undef, undef, undef, undef, undef, undef, undef, undef, undef, undef, undef, undef, undef, undef, undef, undef, undef, undef, undef, undef], defers := [] }) ?_ ?_ ?_ ?_
    · rintro pre A B ⟨h1, h2, h3⟩ hA hT
      exact ⟨h1.turn hT (by omega) (by omega), h2.turn hT (by omega) (by omega), hT.below h3 (by omega) (by omega)⟩
    · rintro c pre A B h
      exact h.elim
    · intro W hW
      exact ⟨HB6.out.ext hW, HBR6.out.ext hW, HEW6.out.trans hW⟩
    · intro m l v W K hK
      clear hz6 hwz hlt
      gi_wp2
      exact hK
    · rintro m l pre x v W ⟨h1, h2, h3⟩ hv hpre hlt2
      have hx : x ∈ truthsL (sp.zip [0, 0, 0, 0, 0]) := by
        obtain ⟨q, hq⟩ := hpre
        rw [← hq]; simp
      obtain ⟨hxl, hxb⟩ := truthsL_mem hx
      have hxl' : x.length = sp.length := by rw [hxl, List.length_zip]; have := HL5.out; simp; omega
      have HSM := Lib.hid (show Small x from fun n hn => by
        obtain ⟨y, hy, h6, h7⟩ := hxb n hn
        have := HBD.out y.1 (List.of_mem_zip hy).1
        omega)
      have HXL := Lib.hid (show 0 < x.length ∧ x.length ≤ 1000 by have := HL0.out; have := HL5.out; omega)
      have HV := Lib.hid hv; have H1 := Lib.hid h1; have H2 := Lib.hid h2; have H3 := Lib.hid h3
      have q1 : w1.heap.size + 1 < W.heap.size := by omega
      clear hx hxl hxb hxl' hv hpre h1 h2 h3 hz6 hwz hlt hPM hB6
      gi_wp2_with fail
      refine ⟨trivial, wide_depth _, ?_⟩
      refine (CallsIn.inRound l (callsIn_wide.2 (cutsOwn_any x v _ HV.out HXL.out.1 HXL.out.2 HSM.out))).mono ?_
      rintro e W1 ⟨u, rfl, ho, hE⟩
      have hsl : SlI W1 u (cutsL x) := Own.sl (enc := encI) (fun _ => rfl) ho
      obtain ⟨Au, nu, cu, rfl, hnu, -, -⟩ := hsl.form
      have hnub : nu ≤ 1000 := by have h1 := hnu.out; have h2 := cutsL_len x; have h3 := HXL.out.2; omega
      have HBG := Lib.hid (fun b' o e => Own.block_ge ho b' o e)
      have HSL := Lib.hid hsl
      have HB1 := Lib.hid (H1.out.ext hE)
      have HKE := Lib.hid (Keep.ext (n₀ := w.heap.size) (X := fun k => k = w1.heap.size + 1) hE (by have := H3.out.size; omega))
      have HHE := Lib.hid hE
      clear ho hsl hE
      gi_wp2
      gi_loopw [9, 30] (fun _ s30 wr => ∃ kk : Nat, kk ≤ nu ∧ s30 = .int .i64 kk ∧ Aside (Keep w.heap.size (fun k => k = w1.heap.size + 1) W1 wr) ∧ Aside (wr.heap[w6.heap.size]? = W.heap[w6.heap.size]?) ∧ Aside (wr.heap[w6.heap.size + 1]? = W.heap[w6.heap.size + 1]?) ∧ Aside (Blk wr (w1.heap.size + 1) 23 #[.int .i64 (((cutsL x).take kk).foldl cutStep (cutFold ⟨b.layers, 0⟩ pre)).lo, .int .i64 (((cutsL x).take kk).foldl cutStep (cutFold ⟨b.layers, 0⟩ pre)).hi])) (fun _ i _ => nu - (RowKit.intOf i).toNat)
      case atStart => exact ⟨0, by omega, rfl, Keep.refl _, HHE.out.block _ (by omega), HHE.out.block _ (by omega), HB1.out⟩
      case round =>
        obtain ⟨kk, hkk, rfl, KW, D0, D1, BW⟩ := hrel
        by_cases hlt3 : kk < nu
        · have hltz : (kk : Int) < (nu : Int) := by omega
          have hslw := Sl.keep HSL.out KW.out (fun b' o e h => by have := HBG.out b' o e; omega)
          obtain ⟨bu, ou, y, rfl, hy, hbu, hcell⟩ := hslw.at_ hlt3
          have c0 := Sl.int hcell _ (Ext.refl _)
          have HY := Lib.hid (foldl_snoc cutStep (cutFold ⟨b.layers, 0⟩ pre) _ _ _ hy)
          have t0 := BW.out.cell 0
          have t1 := BW.out.cell 1
          have tf := BW.out.frozen
          have tl := BW.out.lt
          simp at t0 t1
          have hz6 := HZ6.out
          clear hslw hy hcell
          gi_wp2
          have hltc := HLT.out
          go_roundw
          case rel => exact ⟨kk + 1, by omega, by simp, (KW.out.trans (keep_set (g := w1.heap.size + 1) (p := ⟨w1.heap.size + 1, _, none⟩) _ rfl (by omega) _)).trans (keep_set (g := w1.heap.size + 1) (p := ⟨w1.heap.size + 1, _, none⟩) _ rfl (by omega) _), ((Below.heap_setCell _ _ _ _ (by dsimp only; omega)).trans (Below.heap_setCell _ _ _ _ (by dsimp only; omega))).trans D0.out, ((Below.heap_setCell _ _ _ _ (by dsimp only; omega)).trans (Below.heap_setCell _ _ _ _ (by dsimp only; omega))).trans D1.out, by
            rw [HY.out]; exact (BW.out.set_ 0 _).set_ 1 _⟩
          case measure => simp [RowKit.intOf]; omega
        · have HTK := Lib.hid (show (cutsL x).take kk = cutsL x from List.take_of_length_le (by have := hnu.out; omega))
          gi_wp2
          have hk := HKE.out.trans KW.out
          have hb : Blk wr (w1.heap.size + 1) 23 #[.int .i64 (cutFold ⟨b.layers, 0⟩ (pre ++ [x])).lo, .int .i64 (cutFold ⟨b.layers, 0⟩ (pre ++ [x])).hi] := by
            have := BW.out
            rw [HTK.out, ← cutFold_snoc] at this
            exact this
          have hz6 := HZ6.out
          exact ⟨hk, D0.out, D1.out, hb, H2.out.keep hk (by have := HLT.out; omega), H3.out.trans hk.b⟩
    · rintro W ⟨h1, h2, h3⟩ hlt2 hK
      rw [← HCS.out] at h1
      generalize cutS b = s at *
      obtain ⟨lo, hi⟩ := s
      have H1 := Lib.hid h1; have H2 := Lib.hid h2; have H3 := Lib.hid h3
      have c0 := h1.cell 0
      have c1 := h1.cell 1
      have ul := h1.lt
      have t0 := h2.cell 0
      have t1 := h2.cell 1
      have tf := h2.frozen
      have tl := h2.lt
      simp at c0 c1 t0 t1
      clear h1 h2 h3 hz6 hwz hPM hB6 hlt
      by_cases h0 : hi = 0
      · subst h0
        go_wp2
        have hK' : ((W.setCell ⟨w.heap.size + 1, 0, none⟩ (.int .i64 0)).setCell ⟨w.heap.size + 1, 1, none⟩ (.int .i64 0)).heap[w6.heap.size]? = some (.deferred (some [])) := ((Below.heap_setCell _ _ _ _ (by have := HZ6.out; have := HLT.out; dsimp only; omega)).trans (Below.heap_setCell _ _ _ _ (by have := HZ6.out; have := HLT.out; dsimp only; omega))).trans hK
        refine ⟨by simp, .inl ⟨_, _, rfl, run_takeDeferred hK', ?_⟩⟩
        have HBW := Lib.hid ((H2.out.set_ 0 (.int .i64 0)).set_ 1 (.int .i64 0))
        have HBW2 := Lib.hid (show Blk (((W.setCell ⟨w.heap.size + 1, 0, none⟩ (.int .i64 0)).setCell ⟨w.heap.size + 1, 1, none⟩ (.int .i64 0)).putObj w6.heap.size (.deferred none)) (w.heap.size + 1) 23 #[.int .i64 0, .int .i64 0] from (World.putObj_heap_other (by have := HZ6.out; have := HLT.out; omega)).trans HBW.out)
        have u0 := HBW2.out.cell 0
        have u1 := HBW2.out.cell 1
        simp at u0 u1
        have hbel : Below w.heap.size w ((W.setCell ⟨w.heap.size + 1, 0, none⟩ (.int .i64 0)).setCell ⟨w.heap.size + 1, 1, none⟩ (.int .i64 0)) := (H3.out.setCell (by dsimp only; omega) _).setCell (by dsimp only; omega) _
        refine ⟨.tuple #[valS ⟨0, 0⟩, .int .i64 6], by simp [results, Tryz.results21, go_sem, u0, u1], ?_, ?_⟩
        · rw [HC.out, HCE.out]; simp
        · exact Turn.below hbel (Turn.put0 (s := w6.heap.size) _ _) (by have := HEW6.out.size; omega) hbel.size
      · have h0' : (hi == 0) = false := by simpa using h0
        go_wp2
        have hK' : ((W.setCell ⟨w.heap.size + 1, 0, none⟩ (.int .i64 lo)).setCell ⟨w.heap.size + 1, 1, none⟩ (.int .i64 hi)).heap[w6.heap.size]? = some (.deferred (some [])) := ((Below.heap_setCell _ _ _ _ (by have := HZ6.out; have := HLT.out; dsimp only; omega)).trans (Below.heap_setCell _ _ _ _ (by have := HZ6.out; have := HLT.out; dsimp only; omega))).trans hK
        refine ⟨by simp, .inl ⟨_, _, rfl, run_takeDeferred hK', ?_⟩⟩
        have HBW := Lib.hid ((H2.out.set_ 0 (.int .i64 lo)).set_ 1 (.int .i64 hi))
        have HBW2 := Lib.hid (show Blk (((W.setCell ⟨w.heap.size + 1, 0, none⟩ (.int .i64 lo)).setCell ⟨w.heap.size + 1, 1, none⟩ (.int .i64 hi)).putObj w6.heap.size (.deferred none)) (w.heap.size + 1) 23 #[.int .i64 lo, .int .i64 hi] from (World.putObj_heap_other (by have := HZ6.out; have := HLT.out; omega)).trans HBW.out)
        have u0 := HBW2.out.cell 0
        have u1 := HBW2.out.cell 1
        simp at u0 u1
        have hbel : Below w.heap.size w ((W.setCell ⟨w.heap.size + 1, 0, none⟩ (.int .i64 lo)).setCell ⟨w.heap.size + 1, 1, none⟩ (.int .i64 hi)) := (H3.out.setCell (by dsimp only; omega) _).setCell (by dsimp only; omega) _
        refine ⟨.tuple #[valS ⟨lo, hi⟩, .int .i64 0], by simp [results, Tryz.results21, go_sem, u0, u1], ?_, ?_⟩
        · rw [HC.out, HCE.out]; simp [h0]
        · exact Turn.below hbel (Turn.put0 (s := w6.heap.size) _ _) (by have := HEW6.out.size; omega) hbel.size
    · rintro c pre W hpre h hlt2 hK
      exact h.elim
  · have HC := Lib.hid (show cutB b = ⟨0, 0⟩ by unfold cutB; rw [if_neg hz9])
    have HCE := Lib.hid (show cutE b = askE b true 0 by unfold cutE; rw [if_neg hz9])
    obtain rfl := hpz hz9
    generalize hE9 : askE b true 0 = E at hz9
    have HE9 := Lib.hid hE9; clear hE9 hpv hpz
    have hlt := HBR.out.lt
    have b0 := HBR.out.cell 0
    have b1 := HBR.out.cell 1
    have bf := HBR.out.frozen
    simp at b0 b1
    go_wp2
    have HBW := Lib.hid (((HBR.out.set_ 0 (.int .i64 0)).set_ 1 (.int .i64 0)).alloc (.cells #[.int .i64 0, .int .i64 0, .int .i64 0, .int .i64 0, .slice none 0 0, .slice none 0 0, .slice none 0 0, .slice none 0 0] 73))
    have u0 := HBW.out.cell 0
    have u1 := HBW.out.cell 1
    simp at u0 u1
    refine ⟨.tuple #[valS ⟨0, 0⟩, .int .i64 E], by simp [results, Tryz.results21, go_sem, u0, u1], ?_, ?_⟩
    · rw [HC.out, HCE.out, HE9.out]
    · exact ((HEW.out.setCell (by dsimp only; omega) _).setCell (by dsimp only; omega) _).alloc _
end Go.Proofs.YtfhmfbhpehldpaaGreatDoor
/- The reference's cuts: a recursion that notes each cut in an array. -/
namespace Go.Proofs.YtfhmfbhpehldpaaGreatDoor
open Go.RowKit Go.Shelf Go.Lib
set_option maxRecDepth 100000
set_option linter.unusedSimpArgs false

abbrev marksV (m : Nat → Bool) : Array Value := #[.bool (m 0), .bool (m 1), .bool (m 2), .bool (m 3), .bool (m 4), .bool (m 5)]
def cutM (l : List Int) (i : Nat) : Bool := decide (kindR l = 2) && (decide (1 ≤ i) && (decide (i < l.length) && cutR l i))
/-- .. so far. -/
def cutTo (l : List Int) (n i : Nat) : Bool := decide (1 ≤ i) && (decide (i < n) && cutR l i)
def rcm (m : Nat → Bool) (ls : List (List Int)) : Nat → Bool := fun i => m i || ls.any fun l => cutM l i
theorem rcm_append (m : Nat → Bool) (a b : List (List Int)) : rcm m (a ++ b) = rcm (rcm m a) b := by
  funext i; unfold rcm; rw [List.any_append, Bool.or_assoc]
theorem marks_set (m : Nat → Bool) {k : Nat} (h : k < 6) : (marksV m).setIfInBounds k (.bool true) = marksV (fun i => m i || (i == k)) := by
  obtain rfl | rfl | rfl | rfl | rfl | rfl : k = 0 ∨ k = 1 ∨ k = 2 ∨ k = 3 ∨ k = 4 ∨ k = 5 := by omega
  all_goals simp [marksV]
theorem cutTo_step (l : List Int) {n : Nat} (h1 : 1 ≤ n) : cutTo l (n + 1) = fun i => cutTo l n i || (i == n && cutR l n) := by
  funext i
  unfold cutTo
  by_cases hi : i = n
  · subst hi; simp [h1]
  · by_cases hlt : i < n
    · simp [hi, hlt, show i < n + 1 by omega]
    · simp [hi, hlt, show ¬ i < n + 1 by omega]

end Go.Proofs.YtfhmfbhpehldpaaGreatDoor
/- The reference's Cut. -/
namespace Go.Proofs.YtfhmfbhpehldpaaGreatDoor
open Go.RowKit Go.Shelf Go.Lib
set_option maxRecDepth 100000
set_option linter.unusedSimpArgs false

/-- The cuts that were noted, from the last one on. -/
def dn (M : Nat → Bool) : Nat → Span
  | 0 => ⟨0, 0⟩
  | j + 1 => if M (5 - j) then ⟨((5 - j : Nat) : Int), max (dn M j).hi ((5 - j : Nat) : Int)⟩ else dn M j
def marksB (b : Bale) : Nat → Bool := rcm (fun _ => false) (exts [] (zOf (spans b)))
def rcutS (b : Bale) : Span := dn (marksB b) 5
def rcutB (b : Bale) : Span := if askE b true 0 = 0 then rcutS b else ⟨0, 0⟩
def rcutE (b : Bale) : Int := if askE b true 0 = 0 then (if (rcutS b).hi = 0 then 6 else 0) else askE b true 0

end Go.Proofs.YtfhmfbhpehldpaaGreatDoor
/- The plain law: Cut. -/
namespace Go.Proofs.YtfhmfbhpehldpaaGreatDoor
open Go.RowKit Go.Shelf
set_option linter.unusedSimpArgs false

theorem cutFold_flat (s : Span) (ls : List (List Int)) : cutFold s ls = (ls.flatMap cutsL).foldl cutStep s := by
  unfold cutFold
  induction ls generalizing s with
  | nil => rfl
  | cons l ls ih => rw [List.foldl_cons, ih, List.flatMap_cons, List.foldl_append]
theorem cutStep_fold : ∀ (ks : List Int) (s : Span), (ks.foldl cutStep s).lo ≤ s.lo ∧ s.hi ≤ (ks.foldl cutStep s).hi ∧ (∀ k ∈ ks, (ks.foldl cutStep s).lo ≤ k ∧ k ≤ (ks.foldl cutStep s).hi) ∧ ((ks.foldl cutStep s).lo = s.lo ∨ (ks.foldl cutStep s).lo ∈ ks) ∧ ((ks.foldl cutStep s).hi = s.hi ∨ (ks.foldl cutStep s).hi ∈ ks)
  | [], s => ⟨by simp, by simp, by simp, .inl rfl, .inl rfl⟩
  | k :: ks, s => by
    obtain ⟨h1, h2, h3, h4, h5⟩ := cutStep_fold ks (cutStep s k)
    rw [List.foldl_cons]
    generalize ks.foldl cutStep (cutStep s k) = r at *
    have e1 : (cutStep s k).lo = min s.lo k := rfl
    have e2 : (cutStep s k).hi = max s.hi k := rfl
    rw [e1] at h1 h4
    rw [e2] at h2 h5
    refine ⟨by omega, by omega, fun y hy => ?_, ?_, ?_⟩
    · rcases List.mem_cons.1 hy with rfl | hy
      · omega
      · exact h3 y hy
    · rcases h4 with h4 | h4
      · by_cases hk : s.lo ≤ k
        · left; omega
        · right; rw [show r.lo = k by omega]; simp
      · right; simp [h4]
    · rcases h5 with h5 | h5
      · by_cases hk : k ≤ s.hi
        · left; omega
        · right; rw [show r.hi = k by omega]; simp
      · right; simp [h5]
theorem cutsTo_mem {l : List Int} {x : Int} : ∀ m : Nat, x ∈ cutsTo l m ↔ ∃ k : Nat, k < m ∧ cutAt l k = true ∧ x = (k : Int)
  | 0 => by simp [cutsTo]
  | m + 1 => by
    rw [cutsTo, List.mem_append, cutsTo_mem m]
    constructor
    · rintro (⟨k, h1, h2, h3⟩ | h)
      · exact ⟨k, by omega, h2, h3⟩
      · split at h
        · rename_i hc
          simp at h
          exact ⟨m, by omega, hc, h⟩
        · cases h
    · rintro ⟨k, h1, h2, h3⟩
      by_cases hk : k = m
      · subst hk; right; rw [if_pos h2]; simp [h3]
      · left; exact ⟨k, by omega, h2, h3⟩
theorem cutM_iff {l : List Int} (h0 : 0 < l.length) (h : Gr l) (k : Nat) : cutM l k = true ↔ (k : Int) ∈ cutsL l := by
  unfold cutM
  rw [kindR_eq h0 h]
  cases ha : alikeL l with
  | true =>
    have h1 : kindL l = 1 := by unfold kindL; rw [ha]; rfl
    have h2 : cutsL l = [] := by unfold cutsL; rw [ha]; rfl
    rw [h1, h2]; simp
  | false =>
    have h2 : cutsL l = cutsTo l l.length := by unfold cutsL; rw [ha]; rfl
    simp only [Bool.and_eq_true, decide_eq_true_eq]
    rw [h2, cutsTo_mem]
    constructor
    · rintro ⟨-, h3, h4, h5⟩
      exact ⟨k, h4, by rw [← cut_eq h3 h4 h]; exact h5, rfl⟩
    · rintro ⟨k', h3, h4, h5⟩
      obtain rfl : k = k' := by omega
      have h1 : 1 ≤ k := by unfold cutAt at h4; simp at h4; exact h4.1
      refine ⟨?_, h1, h3, by rw [cut_eq h1 h3 h]; exact h4⟩
      unfold kindL
      rw [ha, if_neg (by simp), if_pos]
      rw [h2]
      exact cutsTo_pos _ |>.2 ⟨k, h3, h4⟩
theorem truths_gr {b : Bale} (hv : valid b = true) : ∀ l ∈ truthsB b, l.length = b.layers.toNat ∧ Gr l := by
  intro l hl
  unfold truthsB at hl
  have hB := valid_bds hv
  have hlen := spans_len b
  obtain ⟨h1, h2⟩ := truthsL_mem hl
  refine ⟨by rw [h1, List.length_zip]; have := hB.l5; simp; omega, fun n hn => ?_⟩
  obtain ⟨y, hy, h3⟩ := h2 n hn
  have := spans_bd hv y.1 (List.of_mem_zip hy).1
  omega
theorem marks_iff {b : Bale} (hv : valid b = true) (k : Nat) : marksB b k = true ↔ (k : Int) ∈ (truthsB b).flatMap cutsL := by
  have hB := valid_bds hv
  have hlen := spans_len b
  unfold marksB rcm
  rw [exts_nil, zOf_zip (by have := hB.l5; omega)]
  show (false || (truthsB b).any _) = true ↔ _
  rw [Bool.false_or, List.any_eq_true, List.mem_flatMap]
  constructor
  · rintro ⟨l, hl, h⟩
    obtain ⟨h1, h2⟩ := truths_gr hv l hl
    exact ⟨l, hl, (cutM_iff (by have := hB.l1; omega) h2 k).1 h⟩
  · rintro ⟨l, hl, h⟩
    obtain ⟨h1, h2⟩ := truths_gr hv l hl
    exact ⟨l, hl, (cutM_iff (by have := hB.l1; omega) h2 k).2 h⟩
theorem cutsL_bd {l : List Int} {x : Int} (h : x ∈ cutsL l) : ∃ k : Nat, 1 ≤ k ∧ k < l.length ∧ x = (k : Int) := by
  unfold cutsL at h
  split at h
  · cases h
  · obtain ⟨k, h1, h2, h3⟩ := (cutsTo_mem _).1 h
    refine ⟨k, ?_, h1, h3⟩
    unfold cutAt at h2; simp at h2; exact h2.1
theorem cut_law {b : Bale} (hv : valid b = true) : rcutS b = if (cutS b).hi = 0 then ⟨0, 0⟩ else cutS b := by
  have hB := valid_bds hv
  have hl5 := hB.l5
  unfold rcutS cutS
  rw [cutFold_flat]
  have hbd : ∀ x ∈ (truthsB b).flatMap cutsL, 1 ≤ x ∧ x ≤ 4 ∧ x < b.layers := by
    intro x hx
    obtain ⟨l, hl, h⟩ := List.mem_flatMap.1 hx
    obtain ⟨h1, h2⟩ := truths_gr hv l hl
    obtain ⟨k, h3, h4, h5⟩ := cutsL_bd h
    omega
  have m1 := marks_iff hv 1
  have m2 := marks_iff hv 2
  have m3 := marks_iff hv 3
  have m4 := marks_iff hv 4
  have m5 := marks_iff hv 5
  generalize (truthsB b).flatMap cutsL = ks at *
  generalize marksB b = M at *
  obtain ⟨h1, h2, h3, h4, h5⟩ := cutStep_fold ks ⟨b.layers, 0⟩
  generalize ks.foldl cutStep ⟨b.layers, 0⟩ = r at *
  obtain ⟨lo, hi⟩ := r
  dsimp only at h1 h2 h3 h4 h5 ⊢
  have q5 : M 5 = false := by
    cases h : M 5
    · rfl
    · have := hbd _ (m5.1 h); simp at this
  have lo_m : lo ∈ ks → lo = 1 ∧ M 1 = true ∨ lo = 2 ∧ M 2 = true ∨ lo = 3 ∧ M 3 = true ∨ lo = 4 ∧ M 4 = true := by
    intro h
    have := hbd _ h
    have hc : lo = 1 ∨ lo = 2 ∨ lo = 3 ∨ lo = 4 := by omega
    rcases hc with e | e | e | e <;> subst e
    · exact .inl ⟨rfl, m1.2 h⟩
    · exact .inr (.inl ⟨rfl, m2.2 h⟩)
    · exact .inr (.inr (.inl ⟨rfl, m3.2 h⟩))
    · exact .inr (.inr (.inr ⟨rfl, m4.2 h⟩))
  have hi_m : hi ∈ ks → hi = 1 ∧ M 1 = true ∨ hi = 2 ∧ M 2 = true ∨ hi = 3 ∧ M 3 = true ∨ hi = 4 ∧ M 4 = true := by
    intro h
    have := hbd _ h
    have hc : hi = 1 ∨ hi = 2 ∨ hi = 3 ∨ hi = 4 := by omega
    rcases hc with e | e | e | e <;> subst e
    · exact .inl ⟨rfl, m1.2 h⟩
    · exact .inr (.inl ⟨rfl, m2.2 h⟩)
    · exact .inr (.inr (.inl ⟨rfl, m3.2 h⟩))
    · exact .inr (.inr (.inr ⟨rfl, m4.2 h⟩))
  have b1 : M 1 = true → lo ≤ 1 ∧ 1 ≤ hi ∧ 1 < b.layers := fun h => ⟨(h3 _ (m1.1 h)).1, (h3 _ (m1.1 h)).2, (hbd _ (m1.1 h)).2.2⟩
  have b2 : M 2 = true → lo ≤ 2 ∧ 2 ≤ hi ∧ 2 < b.layers := fun h => ⟨(h3 _ (m2.1 h)).1, (h3 _ (m2.1 h)).2, (hbd _ (m2.1 h)).2.2⟩
  have b3 : M 3 = true → lo ≤ 3 ∧ 3 ≤ hi ∧ 3 < b.layers := fun h => ⟨(h3 _ (m3.1 h)).1, (h3 _ (m3.1 h)).2, (hbd _ (m3.1 h)).2.2⟩
  have b4 : M 4 = true → lo ≤ 4 ∧ 4 ≤ hi ∧ 4 < b.layers := fun h => ⟨(h3 _ (m4.1 h)).1, (h3 _ (m4.1 h)).2, (hbd _ (m4.1 h)).2.2⟩
  have lo2 : lo = b.layers ∨ (lo = 1 ∧ M 1 = true ∨ lo = 2 ∧ M 2 = true ∨ lo = 3 ∧ M 3 = true ∨ lo = 4 ∧ M 4 = true) := h4.imp id lo_m
  have hi2 : hi = 0 ∨ (hi = 1 ∧ M 1 = true ∨ hi = 2 ∧ M 2 = true ∨ hi = 3 ∧ M 3 = true ∨ hi = 4 ∧ M 4 = true) := h5.imp id hi_m
  clear h3 h4 h5 lo_m hi_m m1 m2 m3 m4 m5 hbd
  simp only [dn]
  rw [show 5 - 0 = 5 from rfl, show 5 - 1 = 4 from rfl, show 5 - 2 = 3 from rfl, show 5 - 3 = 2 from rfl, show 5 - 4 = 1 from rfl, q5]
  cases e1 : M 1 <;> cases e2 : M 2 <;> cases e3 : M 3 <;> cases e4 : M 4 <;> simp only [e1, e2, e3, e4] at b1 b2 b3 b4 lo2 hi2 <;> simp at b1 b2 b3 b4 lo2 hi2 ⊢ <;> (try split) <;> (try simp only [Span.mk.injEq]) <;> omega
theorem cut_same (b : Bale) : rcutB b = cutB b ∧ rcutE b = cutE b := by
  unfold rcutB cutB rcutE cutE
  by_cases hz : askE b true 0 = 0
  · obtain ⟨h1, h3⟩ : valid b = true ∧ okB b = true := by
      unfold askE at hz
      split at hz
      · simp at hz; exact ⟨by assumption, hz⟩
      · cases hz
    rw [if_pos hz, if_pos hz, if_pos hz, if_pos hz, cut_law h1]
    refine ⟨rfl, ?_⟩
    by_cases h0 : (cutS b).hi = 0
    · simp [h0]
    · simp [h0]
  · simp [hz]
end Go.Proofs.YtfhmfbhpehldpaaGreatDoor
/- core.Ask. -/
namespace Go.Proofs.YtfhmfbhpehldpaaGreatDoor
open Go.RowKit Go.Shelf Go.Lib
set_option maxRecDepth 100000
set_option linter.unusedSimpArgs false

abbrev shown (j : Nat) (n : Int) : List Int := [0, 0, 0, 0, 0].set j n
/-- How many kinds are left when a layer shows a grade. -/
def numK (sp : List Span) (j : Nat) (n : Int) : Int := ((kindsOf (truthsL (sp.zip (shown j n)))).num : Nat)
def wst (f : Int → Int) (lo : Int) : Nat → Int
  | 0 => 0
  | k + 1 => max (wst f lo k) (f (lo + (k : Int)))
def layN (f : Nat → Int → Int) (sp : List Span) (j : Nat) : Int := match sp[j]? with | some x => wst (f j) x.lo (x.hi - x.lo + 1).toNat | none => 0
def askTo (f : Nat → Int → Int) (sp : List Span) (most : Int) : Nat → Int × Int
  | 0 => (0, most)
  | j + 1 => if layN f sp j < (askTo f sp most j).2 then ((j : Int), layN f sp j) else askTo f sp most j
def askS (b : Bale) : Int × Int := askTo (numK (spans b)) (spans b) 5 (spans b).length
def askB (b : Bale) : Int × Int := if askE b true 0 = 0 then askS b else (0, 0)
theorem numK_bd (sp : List Span) (j : Nat) (n : Int) : 0 ≤ numK sp j n ∧ numK sp j n ≤ 4 := by
  unfold numK; have := S4.num_le (kindsOf (truthsL (sp.zip (shown j n)))); omega
theorem wst_bd {f : Int → Int} (h : ∀ n, 0 ≤ f n ∧ f n ≤ 4) (lo : Int) : ∀ k, 0 ≤ wst f lo k ∧ wst f lo k ≤ 4
  | 0 => by simp [wst]
  | k + 1 => by have := wst_bd h lo k; have := h (lo + k); unfold wst; omega

set_option maxHeartbeats 4000000 in
theorem ask_any (b : Bale) (dv wv : Value) (w : World) (hT : Tab w) (hd : SlD w dv b.draws) (hw : SlW w wv b.weighs) :
    Calls Tryz.prog 22 #[valB b dv wv] w fun e w' => e = .returned (.tuple #[.int .i64 (askB b).1, .int .i64 (askB b).2, .int .i64 (askE b true 0)]) ∧ Ext w w' := by
  have HT := Lib.hid hT
  have HD := Lib.hid hd
  have HW := Lib.hid hw
  obtain ⟨A, n, cp, rfl, hn, hlc, hcm⟩ := hd.form
  obtain ⟨A2, n2, cp2, rfl, hn2, hlc2, hcm2⟩ := hw.form
  clear hd hw hT
  go_enter Tryz.func22, Tryz.ntmps22
  go_wp2_with fail
  refine (asked_nil b _ _ _ (HT.out.ext (Ext.al _ _)) (HD.out.ext (Ext.al _ _)) (HW.out.ext (Ext.al _ _))).mono ?_
  rintro e w1 ⟨pv, rfl, hpv, hpz, hE⟩
  have HEW := Lib.hid ((Ext.al w _).trans hE)
  clear hE
  by_cases hz9 : askE b true 0 = 0
  · obtain ⟨sv, lv, rfl, hs, hl⟩ := hpv hz9
    obtain ⟨h1, h3⟩ : valid b = true ∧ okB b = true := by
      unfold askE at hz9
      split at hz9
      · simp at hz9; exact ⟨by assumption, hz9⟩
      · cases hz9
    have hb5 := valid_bds h1
    obtain ⟨Al, nl, cl, rfl, hnl, hlc', hlm⟩ := hl.form
    have hln := spans_len b
    have hl0 : 0 < (spans b).length := by have := hb5.l1; omega
    have hl5 : (spans b).length ≤ 5 := by have := hb5.l5; omega
    obtain ⟨As, cs, rfl, hsc, hsm, hcx⟩ := id hs
    obtain ⟨bs, os, rfl, hbs, -⟩ := hcx hl0
    have HBD := Lib.hid (show ∀ x ∈ spans b, 1 ≤ x.lo ∧ x.lo ≤ 9 ∧ x.hi ≤ 9 ∧ 1 ≤ x.hi from fun x hx => spans_bd h1 x hx)
    have HK := Lib.hid (show askB b = askTo (numK (spans b)) (spans b) 5 (spans b).length by unfold askB; rw [if_pos hz9]; rfl)
    have HZ := Lib.hid hz9
    have HS := Lib.hid hs
    have HMA := Lib.hid (fun W s0 s1 s2 s3 s4 hS => kinds_any b (.slice A n cp) (.slice A2 n2 cp2) (.slice Al nl cl) bs os cs (spans b) s0 s1 s2 s3 s4 W hl5 hl0 (fun x hx => by have := spans_bd h1 x hx; omega) hS)
    have HL5 := Lib.hid hl5
    generalize hsp : spans b = sp at *
    rw [hz9]
    dsimp only [valP]
    have HBP := Lib.hid (Blk.new w1 73 #[.int .i64 b.id, .int .i64 b.layers, .int .i64 b.dry.lo, .int .i64 b.dry.hi, .slice A n cp, .slice A2 n2 cp2, .slice (some ⟨bs, os, none⟩) sp.length cs, .slice Al nl cl])
    clear hz9 hs hl hsc hsm hcx hb5 h1 h3 hpv hpz hsp hln hl0 hl5 hbs
    go_wp2
    go_loopg [2, 3, 6, 7, 8, 9, 10, 22] sp.length (fun gg s2 s3 _ _ _ _ _ s22 wr => ∃ (j : Nat) (at' few : Int), j ≤ sp.length ∧ sp.length - j ≤ gg ∧ s22 = .int .i64 j ∧ s2 = .int .i64 at' ∧ s3 = .int .i64 few ∧ Aside (askTo (numK sp) sp 5 j = (at', few)) ∧ Aside (Ext (w1.alloc (.cells #[.int .i64 b.id, .int .i64 b.layers, .int .i64 b.dry.lo, .int .i64 b.dry.hi, .slice A n cp, .slice A2 n2 cp2, .slice (some ⟨bs, os, none⟩) sp.length cs, .slice Al nl cl] 73)) wr))
    case atStart => exact ⟨0, 0, 5, by omega, by omega, rfl, rfl, rfl, rfl, Ext.refl _⟩
    case round =>
      obtain ⟨j, at', few, hj, hgg, rfl, rfl, rfl, HA, EX⟩ := hrel
      by_cases hjn : j < sp.length
      · have hjz : (j : Int) < (sp.length : Int) := by omega
        obtain ⟨bb, off, x, e1, hx, hbb, hxc⟩ := HS.out.at_ hjn
        injection e1 with e1
        injection e1 with e1 e2
        subst e1 e2
        obtain ⟨c0, c1⟩ := SlS.cells hxc ((Ext.al _ _).trans EX.out)
        have hxb := HBD.out x (List.mem_of_getElem? hx)
        have HLN := Lib.hid (show layN (numK sp) sp j = wst (numK sp j) x.lo (x.hi - x.lo + 1).toNat by unfold layN; rw [hx])
        have hj5 : j < 5 := by have := HL5.out; omega
        generalize hN : (x.hi - x.lo + 1).toNat = N at *
        obtain ⟨wo, hwo⟩ : ∃ wo : World, wo = wr := ⟨_, rfl⟩
        subst hwo
        clear hx hxc
        go_wp2
        go_loopg [8, 9, 10] N (fun gg s8 s9 _ wr => ∃ q : Nat, q ≤ N ∧ N - q ≤ gg ∧ s9 = .int .i64 (x.lo + (q : Int)) ∧ s8 = .int .i64 (wst (numK sp j) x.lo q) ∧ Aside (Blk wr wo.heap.size 23 #[.int .i64 x.lo, .int .i64 x.hi]) ∧ Aside (Ext (w1.alloc (.cells #[.int .i64 b.id, .int .i64 b.layers, .int .i64 b.dry.lo, .int .i64 b.dry.hi, .slice A n cp, .slice A2 n2 cp2, .slice (some ⟨bs, os, none⟩) sp.length cs, .slice Al nl cl] 73)) wr))
        case atStart => exact ⟨0, by omega, by omega, by simp, rfl, Blk.new _ _ _, EX.out.alloc _⟩
        case round =>
          clear c0 c1
          obtain ⟨q, hq, hgq, rfl, rfl, BX, EX2⟩ := hrel
          have z1 := BX.out.cell 1
          have zl := BX.out.lt
          simp at z1
          have HBPW := Lib.hid (HBP.out.ext EX2.out)
          have y0 := HBPW.out.cell 0
          have y1 := HBPW.out.cell 1
          have y2 := HBPW.out.cell 2
          have y3 := HBPW.out.cell 3
          have y4 := HBPW.out.cell 4
          have y5 := HBPW.out.cell 5
          have y6 := HBPW.out.cell 6
          have y7 := HBPW.out.cell 7
          have yl := HBPW.out.lt
          simp at y0 y1 y2 y3 y4 y5 y6 y7
          by_cases hqN : q < N
          · have hle : x.lo + (q : Int) ≤ x.hi := by omega
            have HWS := Lib.hid (show wst (numK sp j) x.lo (q + 1) = max (wst (numK sp j) x.lo q) (numK sp j (x.lo + (q : Int))) from rfl)
            have hwb := wst_bd (numK_bd sp j) x.lo q
            have hnb := numK_bd sp j (x.lo + (q : Int))
            have hj' : j = 0 ∨ j = 1 ∨ j = 2 ∨ j = 3 ∨ j = 4 := by omega
            rcases hj' with rfl | rfl | rfl | rfl | rfl
            · go_wp2_with fail
              refine (HMA.out _ (x.lo + (q : Int)) 0 0 0 0 (HS.out.ext (((Ext.al _ _).trans EX2.out).trans (Ext.al _ _)))).mono ?_
              rintro e w5 ⟨m, rfl, hmi, hE5⟩
              have ln := hmi.len 3
              rw [show (((kindsOf (truthsL (sp.zip [(x.lo + (q : Int)), 0, 0, 0, 0]))).num : Nat) : Int) = numK sp 0 (x.lo + (q : Int)) from rfl] at ln
              have BX5 := Lib.hid ((BX.out.alloc _).ext hE5)
              have EX5 := Lib.hid ((EX2.out.trans (Ext.al _ _)).trans hE5)
              clear hmi hE5
              go_wp2
              go_roundg (N - (q + 1))
              case measure => omega
              case rel => exact ⟨q + 1, by omega, by omega, by simp; omega, by rw [HWS.out], BX5.out, EX5.out⟩
            · go_wp2_with fail
              refine (HMA.out _ 0 (x.lo + (q : Int)) 0 0 0 (HS.out.ext (((Ext.al _ _).trans EX2.out).trans (Ext.al _ _)))).mono ?_
              rintro e w5 ⟨m, rfl, hmi, hE5⟩
              have ln := hmi.len 3
              rw [show (((kindsOf (truthsL (sp.zip [0, (x.lo + (q : Int)), 0, 0, 0]))).num : Nat) : Int) = numK sp 1 (x.lo + (q : Int)) from rfl] at ln
              have BX5 := Lib.hid ((BX.out.alloc _).ext hE5)
              have EX5 := Lib.hid ((EX2.out.trans (Ext.al _ _)).trans hE5)
              clear hmi hE5
              go_wp2
              go_roundg (N - (q + 1))
              case measure => omega
              case rel => exact ⟨q + 1, by omega, by omega, by simp; omega, by rw [HWS.out], BX5.out, EX5.out⟩
            · go_wp2_with fail
              refine (HMA.out _ 0 0 (x.lo + (q : Int)) 0 0 (HS.out.ext (((Ext.al _ _).trans EX2.out).trans (Ext.al _ _)))).mono ?_
              rintro e w5 ⟨m, rfl, hmi, hE5⟩
              have ln := hmi.len 3
              rw [show (((kindsOf (truthsL (sp.zip [0, 0, (x.lo + (q : Int)), 0, 0]))).num : Nat) : Int) = numK sp 2 (x.lo + (q : Int)) from rfl] at ln
              have BX5 := Lib.hid ((BX.out.alloc _).ext hE5)
              have EX5 := Lib.hid ((EX2.out.trans (Ext.al _ _)).trans hE5)
              clear hmi hE5
              go_wp2
              go_roundg (N - (q + 1))
              case measure => omega
              case rel => exact ⟨q + 1, by omega, by omega, by simp; omega, by rw [HWS.out], BX5.out, EX5.out⟩
            · go_wp2_with fail
              refine (HMA.out _ 0 0 0 (x.lo + (q : Int)) 0 (HS.out.ext (((Ext.al _ _).trans EX2.out).trans (Ext.al _ _)))).mono ?_
              rintro e w5 ⟨m, rfl, hmi, hE5⟩
              have ln := hmi.len 3
              rw [show (((kindsOf (truthsL (sp.zip [0, 0, 0, (x.lo + (q : Int)), 0]))).num : Nat) : Int) = numK sp 3 (x.lo + (q : Int)) from rfl] at ln
              have BX5 := Lib.hid ((BX.out.alloc _).ext hE5)
              have EX5 := Lib.hid ((EX2.out.trans (Ext.al _ _)).trans hE5)
              clear hmi hE5
              go_wp2
              go_roundg (N - (q + 1))
              case measure => omega
              case rel => exact ⟨q + 1, by omega, by omega, by simp; omega, by rw [HWS.out], BX5.out, EX5.out⟩
            · go_wp2_with fail
              refine (HMA.out _ 0 0 0 0 (x.lo + (q : Int)) (HS.out.ext (((Ext.al _ _).trans EX2.out).trans (Ext.al _ _)))).mono ?_
              rintro e w5 ⟨m, rfl, hmi, hE5⟩
              have ln := hmi.len 3
              rw [show (((kindsOf (truthsL (sp.zip [0, 0, 0, 0, (x.lo + (q : Int))]))).num : Nat) : Int) = numK sp 4 (x.lo + (q : Int)) from rfl] at ln
              have BX5 := Lib.hid ((BX.out.alloc _).ext hE5)
              have EX5 := Lib.hid ((EX2.out.trans (Ext.al _ _)).trans hE5)
              clear hmi hE5
              go_wp2
              go_roundg (N - (q + 1))
              case measure => omega
              case rel => exact ⟨q + 1, by omega, by omega, by simp; omega, by rw [HWS.out], BX5.out, EX5.out⟩
          · have HQN := Lib.hid (show q = N by omega)
            have hgt : x.hi < x.lo + (q : Int) := by omega
            have HLQ := Lib.hid (show layN (numK sp) sp j = wst (numK sp j) x.lo q by rw [HLN.out, HQN.out])
            have HWB := Lib.hid (wst_bd (numK_bd sp j) x.lo q)
            have HAS := Lib.hid (show askTo (numK sp) sp 5 (j + 1) = if layN (numK sp) sp j < (askTo (numK sp) sp 5 j).2 then ((j : Int), layN (numK sp) sp j) else askTo (numK sp) sp 5 j from rfl)
            rw [HA.out, HLQ.out] at HAS
            dsimp only at HAS
            generalize wst (numK sp j) x.lo q = wv at *
            by_cases hlt : wv < few
            · rw [if_pos hlt] at HAS
              go_wp2
              go_roundg (sp.length - (j + 1))
              case measure => omega
              case rel => exact ⟨j + 1, (j : Int), wv, by omega, by omega, by simp, rfl, rfl, HAS.out, EX2.out⟩
            · rw [if_neg hlt] at HAS
              go_wp2
              go_roundg (sp.length - (j + 1))
              case measure => omega
              case rel => exact ⟨j + 1, at', few, by omega, by omega, by simp, rfl, rfl, HAS.out, EX2.out⟩
      · have HJ := Lib.hid (show askB b = (at', few) by rw [HK.out, ← HA.out, show j = sp.length by omega])
        go_wp2
        refine bodyPost_ret (v := .tuple #[.int .i64 at', .int .i64 few, .int .i64 0]) (by simp [results, Tryz.results22, go_sem]) rfl ?_
        exact ⟨by rw [HJ.out, HZ.out], HEW.out.trans ((Ext.al _ _).trans EX.out)⟩
  · have HK := Lib.hid (show askB b = (0, 0) by unfold askB; rw [if_neg hz9])
    obtain rfl := hpz hz9
    generalize hE9 : askE b true 0 = E at hz9
    have HE9 := Lib.hid hE9; clear hE9 hpv hpz
    have HE1 := Lib.hid (HEW.out.alloc (.cells #[.int .i64 0, .int .i64 0, .int .i64 0, .int .i64 0, .slice none 0 0, .slice none 0 0, .slice none 0 0, .slice none 0 0] 73))
    go_wp2
    refine bodyPost_ret (v := .tuple #[.int .i64 0, .int .i64 0, .int .i64 E]) (by simp [results, Tryz.results22, go_sem]) rfl ?_
    exact ⟨by rw [HK.out, HE9.out], HE1.out⟩
end Go.Proofs.YtfhmfbhpehldpaaGreatDoor
/- The reference's pinned and Ask. -/
namespace Go.Proofs.YtfhmfbhpehldpaaGreatDoor
open Go.RowKit Go.Shelf Go.Lib
set_option maxRecDepth 100000
set_option linter.unusedSimpArgs false

theorem cell_set2 {W : World} {g p q : Nat} {u0 v : Value} (h0 : W.cell? ⟨g, p, none⟩ = some u0) : (W.setCell ⟨g, p, none⟩ v).cell? ⟨g, q, none⟩ = if p = q then some v else W.cell? ⟨g, q, none⟩ := by
  by_cases hpq : p = q
  · subst hpq; rw [if_pos rfl]; exact World.cell?_setCell_same (h := h0) ..
  · rw [if_neg hpq]; exact World.cell?_setCell_other (h := by intro e; injection e with _ e _; exact hpq e) ..
theorem Sl.put2 {W : World} {g o n c i : Nat} {l : List Span} {x : Span} (h : SlS W (.slice (some ⟨g, o, none⟩) n c) l) (hi : i < n) :
    SlS ((W.setCell ⟨g, o + i * 2, none⟩ (.int .i64 x.lo)).setCell ⟨g, o + i * 2 + 1, none⟩ (.int .i64 x.hi)) (.slice (some ⟨g, o, none⟩) n c) (l.set i x) := by
  obtain ⟨b, off, y, e1, hy, hb, hyc⟩ := h.at_ hi
  injection e1 with e1
  injection e1 with e1 e2
  subst e1 e2
  obtain ⟨c0, c1⟩ := SlS.cells hyc (Ext.refl _)
  obtain ⟨a', c', hv, hl, hc, hcell⟩ := h
  injection hv with e1 e2 e3
  subst e1 e2 e3
  refine ⟨_, _, by rw [List.length_set], by rw [List.length_set]; exact hl, hc, fun h0 => ?_⟩
  rw [List.length_set] at h0
  obtain ⟨b', off', hA, hb', hcell⟩ := hcell h0
  injection hA with hA
  injection hA with e1 e2
  subst e1 e2
  refine ⟨_, _, rfl, by simpa [World.setCell] using hb', fun k z hk j u hu => ?_⟩
  have c1' : (W.setCell ⟨g, o + i * 2, none⟩ (.int .i64 x.lo)).cell? ⟨g, o + i * 2 + 1, none⟩ = some (.int .i64 y.hi) := by rw [cell_set2 c0, if_neg (by omega)]; exact c1
  rw [cell_set2 c1', cell_set2 c0]
  have hj : j = 0 ∧ u = .int .i64 z.lo ∨ j = 1 ∧ u = .int .i64 z.hi := by
    match j, hu with
    | 0, hu => left; simp at hu; exact ⟨rfl, hu.symm⟩
    | 1, hu => right; simp at hu; exact ⟨rfl, hu.symm⟩
  rw [List.getElem?_set] at hk
  by_cases hik : i = k
  · subst hik
    simp only [if_true] at hk
    rw [if_pos (by omega)] at hk
    injection hk with hk
    subst hk
    rcases hj with ⟨rfl, rfl⟩ | ⟨rfl, rfl⟩
    · rw [if_neg (by omega), if_pos (by omega)]
    · rw [if_pos (by omega)]
  · rw [if_neg hik] at hk
    have := hcell k z hk j u hu
    rcases hj with ⟨rfl, rfl⟩ | ⟨rfl, rfl⟩
    · rw [if_neg (by omega), if_neg (by omega)]; exact this
    · rw [if_neg (by omega), if_neg (by omega)]; exact this

theorem own_succ2 {W : World} {base : Nat} {e : TypeId} {size : Nat} {v : Value} {k : Nat} {xs : List Value} (h : W.ownsRow base e size v (k + 1) xs) : ∃ g cap, v = .slice (some ⟨g, 0, none⟩) (k + 1) cap ∧ base ≤ g ∧ ∃ row, W.heap[g]? = some (.cells row e (0, 0)) := by
  rcases h.2 with ⟨_, h0⟩ | ⟨g, cap, row, rfl, hg, hh, _⟩
  · omega
  · exact ⟨g, cap, rfl, hg, row, hh⟩

theorem wpList_copyS {ops : Array Oper} {rest : List Oper} {o : Oper} {a : Act} {Q : Exit → Act → World → Prop} {W : World} (hgd : o.guard = none) (s x : Operand)
    (ho : o.op = .call { callee := .builtin .append, args := #[s, x], argTypes := #[71, 71] }) {base g : Nat} (hs : a.eval s = .slice (some ⟨g, 0, none⟩) 0 0) {v : Value} (hx : a.eval x = v)
    (hB : Blk W g 23 #[]) (hg : base ≤ g) (hW : base ≤ W.heap.size) {l : List Span} (hl : SlS W v l) (hlen : l.length ≤ 1000)
    (h : ∀ v' W', Own encS 23 2 W' base v' l → Ext W W' → wpList Tryz.prog ops Q rest (a.put o.dst v') W') : wpList Tryz.prog ops Q (o :: rest) a W := by
  obtain ⟨v', W', hr, h1, h2⟩ := run_copy (t := 71) (ty := o.type) (enc := encS) (sz := 2) Tryz.underlying71 info23x rfl (by decide) (by decide) (fun _ => rfl) hB hg hW hl hlen
  refine wpList_plain hgd fun K hK => ?_
  unfold Oper.wp execOp
  simp only [ho, resolve, invoke, builtin, Sem.run_bind, Sem.run_pure, Result.andThen_ok, List.map_toArray, List.map_cons, List.map_nil, hs, hx, hr]
  exact hK _ _ (h v' W' h1 h2)

def numR (sp : List Span) (j : Nat) (n : Int) : Int := ((rk S4.none (exts [] (zOf (sp.set j ⟨n, n⟩)))).num : Nat)
def raskB (b : Bale) : Int × Int := if askE b true 0 = 0 then askTo (numR (spans b)) (spans b) 9 (spans b).length else (0, 0)
theorem numR_bd (sp : List Span) (j : Nat) (n : Int) : 0 ≤ numR sp j n ∧ numR sp j n ≤ 4 := by
  unfold numR; have := S4.num_le (rk S4.none (exts [] (zOf (sp.set j ⟨n, n⟩)))); omega

end Go.Proofs.YtfhmfbhpehldpaaGreatDoor
/- The plain law: Ask. -/
namespace Go.Proofs.YtfhmfbhpehldpaaGreatDoor
open Go.RowKit Go.Shelf
set_option linter.unusedSimpArgs false

def truthsG : List (List Int) → List (List Int)
  | [] => [[]]
  | g :: r => g.flatMap fun n => (truthsG r).map (n :: ·)
theorem truthsL_G (z : List (Span × Int)) : truthsL z = truthsG (z.map fun y => gradesOf y.1 y.2) := by
  induction z with
  | nil => rfl
  | cons y z ih => rw [List.map_cons]; unfold truthsL truthsG; rw [ih]
theorem gTo_one {s : Span} {n : Int} (h1 : s.lo ≤ n) (hn : n ≠ 0) : ∀ k : Nat, gTo s n k = if n < s.lo + (k : Int) then [n] else []
  | 0 => by unfold gTo; simp; omega
  | k + 1 => by
    rw [gTo_succ, gTo_one h1 hn k]
    have h0 : (n == 0) = false := by simpa using hn
    rw [h0, Bool.false_or]
    by_cases he : n = s.lo + (k : Int)
    · rw [if_neg (by omega), if_pos (by simpa using he), if_pos (by omega), List.nil_append, ← he]
    · rw [if_neg (show ¬ ((n == s.lo + (k : Int)) = true) by simpa using he)]
      by_cases hl : n < s.lo + (k : Int)
      · rw [if_pos hl, if_pos (by omega)]; simp
      · rw [if_neg hl, if_neg (by omega)]; simp
theorem grades_pick {s : Span} {n : Int} (h1 : s.lo ≤ n) (h2 : n ≤ s.hi) (hn : n ≠ 0) : gradesOf s n = [n] := by
  unfold gradesOf; rw [gTo_one h1 hn, if_pos (by omega)]
theorem grades_pin (n : Int) : gradesOf ⟨n, n⟩ 0 = [n] := by
  unfold gradesOf gTo
  simp
theorem zeros_at (k : Nat) (h : k < 5) : ([0, 0, 0, 0, 0] : List Int)[k]? = some 0 := by
  obtain rfl | rfl | rfl | rfl | rfl : k = 0 ∨ k = 1 ∨ k = 2 ∨ k = 3 ∨ k = 4 := by omega
  all_goals rfl
theorem shown_at (j k : Nat) (n : Int) (h : k < 5) : (shown j n)[k]? = some (if j = k then n else 0) := by
  unfold shown
  rw [List.getElem?_set]
  by_cases hjk : j = k
  · subst hjk; simp [h]
  · rw [if_neg hjk, if_neg hjk, zeros_at k h]
theorem pin_eq {sp : List Span} (h5 : sp.length ≤ 5) {j : Nat} {x : Span} (hx : sp[j]? = some x) {n : Int} (h1 : x.lo ≤ n) (h2 : n ≤ x.hi) (hn : n ≠ 0) :
    truthsL ((sp.set j ⟨n, n⟩).zip [0, 0, 0, 0, 0]) = truthsL (sp.zip (shown j n)) := by
  rw [truthsL_G, truthsL_G]
  congr 1
  apply List.ext_getElem?
  intro k
  rw [List.getElem?_map, List.getElem?_map]
  by_cases hk : k < sp.length
  · obtain ⟨y, hy⟩ : ∃ y, sp[k]? = some y := ⟨_, List.getElem?_eq_getElem hk⟩
    have hz := zeros_at k (by omega)
    have hs := shown_at j k n (by omega)
    have e2 : (sp.zip (shown j n))[k]? = some (y, if j = k then n else 0) := by rw [List.getElem?_zip_eq_some]; exact ⟨hy, hs⟩
    rw [e2]
    by_cases hjk : j = k
    · subst hjk
      obtain rfl : y = x := by rw [hx] at hy; injection hy with h; exact h.symm
      have e1 : ((sp.set j ⟨n, n⟩).zip ([0, 0, 0, 0, 0] : List Int))[j]? = some (⟨n, n⟩, 0) := by
        rw [List.getElem?_zip_eq_some]
        refine ⟨?_, hz⟩
        rw [List.getElem?_set, if_pos rfl, if_pos hk]
      rw [e1]
      simp only [Option.map_some, if_true]
      rw [grades_pin, grades_pick h1 h2 hn]
    · have e1 : ((sp.set j ⟨n, n⟩).zip ([0, 0, 0, 0, 0] : List Int))[k]? = some (y, 0) := by
        rw [List.getElem?_zip_eq_some]
        refine ⟨?_, hz⟩
        rw [List.getElem?_set, if_neg hjk]; exact hy
      rw [e1, if_neg hjk]
  · have e1 : ((sp.set j ⟨n, n⟩).zip ([0, 0, 0, 0, 0] : List Int))[k]? = none := List.getElem?_eq_none (by rw [List.length_zip, List.length_set]; omega)
    have e2 : (sp.zip (shown j n))[k]? = none := List.getElem?_eq_none (by rw [List.length_zip]; omega)
    rw [e1, e2]
theorem num_eq {sp : List Span} (h5 : sp.length ≤ 5) (h0 : 0 < sp.length) (hb : ∀ x ∈ sp, 1 ≤ x.lo ∧ x.hi ≤ 9) {j : Nat} {x : Span} (hx : sp[j]? = some x) {n : Int} (h1 : x.lo ≤ n) (h2 : n ≤ x.hi) : numR sp j n = numK sp j n := by
  have hxb := hb x (List.mem_of_getElem? hx)
  unfold numR numK
  rw [rk_eq (by rw [List.length_set]; exact h5) (by rw [List.length_set]; exact h0) (fun y hy => by
    rcases List.mem_or_eq_of_mem_set hy with hy | rfl
    · exact hb y hy
    · dsimp only; omega), pin_eq h5 hx h1 h2 (by omega)]
theorem wst_eq {f g : Int → Int} {lo : Int} : ∀ k : Nat, (∀ i : Nat, i < k → f (lo + (i : Int)) = g (lo + (i : Int))) → wst f lo k = wst g lo k
  | 0, _ => rfl
  | k + 1, h => by unfold wst; rw [wst_eq k (fun i hi => h i (by omega)), h k (by omega)]
theorem layN_eq {sp : List Span} (h5 : sp.length ≤ 5) (h0 : 0 < sp.length) (hb : ∀ x ∈ sp, 1 ≤ x.lo ∧ x.hi ≤ 9) (j : Nat) : layN (numR sp) sp j = layN (numK sp) sp j := by
  unfold layN
  cases hx : sp[j]? with
  | none => rfl
  | some x => exact wst_eq _ fun i hi => num_eq h5 h0 hb hx (by omega) (by omega)
theorem layN_bd (sp : List Span) (j : Nat) : layN (numK sp) sp j ≤ 4 := by
  unfold layN
  split
  · exact (wst_bd (numK_bd sp j) _ _).2
  · omega
theorem ask_eq (b : Bale) : raskB b = askB b := by
  unfold raskB askB
  split
  · rename_i hz
    obtain ⟨h1, h3⟩ : valid b = true ∧ okB b = true := by
      unfold askE at hz
      split at hz
      · simp at hz; exact ⟨by assumption, hz⟩
      · cases hz
    have hB := valid_bds h1
    have hl := spans_len b
    have h5 : (spans b).length ≤ 5 := by have := hB.l5; omega
    have h0 : 0 < (spans b).length := by have := hB.l1; omega
    have hb : ∀ x ∈ spans b, 1 ≤ x.lo ∧ x.hi ≤ 9 := fun x hx => by have := spans_bd h1 x hx; omega
    unfold askS
    generalize spans b = sp at *
    have key : ∀ j, askTo (numR sp) sp 9 (j + 1) = askTo (numK sp) sp 5 (j + 1) := by
      intro j
      induction j with
      | zero =>
        unfold askTo
        rw [layN_eq h5 h0 hb]
        have := layN_bd sp 0
        rw [if_pos (by unfold askTo; dsimp only; omega), if_pos (by unfold askTo; dsimp only; omega)]
      | succ j ih =>
        rw [askTo, askTo.eq_2 (numK sp), ih, layN_eq h5 h0 hb]
    obtain ⟨m, hm⟩ : ∃ m, sp.length = m + 1 := ⟨sp.length - 1, by omega⟩
    rw [hm]; exact key m
  · rfl
end Go.Proofs.YtfhmfbhpehldpaaGreatDoor
/- The plain law: Decide. -/
namespace Go.Proofs.YtfhmfbhpehldpaaGreatDoor
open Go.RowKit Go.Shelf
set_option linter.unusedSimpArgs false

/-- What a truth shows at some layers. -/
def restr (l : List Int) (t : List Int) : List Int := l.foldl (fun s i => s.set i.toNat (t[i.toNat]?.getD 0)) [0, 0, 0, 0, 0]
theorem restr_fold (t : List Int) (j : Nat) : ∀ (l s : List Int), (∀ i ∈ l, 0 ≤ i) → j < s.length →
    (l.foldl (fun s i => s.set i.toNat (t[i.toNat]?.getD 0)) s)[j]? = if (j : Int) ∈ l then some (t[j]?.getD 0) else s[j]?
  | [], s, _, _ => by simp
  | i :: l, s, h, hj => by
    rw [List.foldl_cons, restr_fold t j l _ (fun k hk => h k (List.mem_cons_of_mem _ hk)) (by rw [List.length_set]; exact hj)]
    have hi := h i (List.mem_cons_self ..)
    by_cases hm : (j : Int) ∈ l
    · rw [if_pos hm, if_pos (List.mem_cons_of_mem _ hm)]
    · rw [if_neg hm]
      by_cases hij : i = (j : Int)
      · subst hij
        rw [if_pos (List.mem_cons_self ..), List.getElem?_set]
        simp [hj]
      · rw [if_neg (by simp [hm, Ne.symm hij]), List.getElem?_set, if_neg (by omega)]
theorem restr_len (l t : List Int) : (restr l t).length = 5 := by
  unfold restr
  have : ∀ (l s : List Int), s.length = 5 → (l.foldl (fun s i => s.set i.toNat (t[i.toNat]?.getD 0)) s).length = 5 := by
    intro l
    induction l with
    | nil => intro s h; exact h
    | cons i l ih => intro s h; rw [List.foldl_cons]; exact ih _ (by rw [List.length_set]; exact h)
  exact this l _ rfl
theorem restr_at {l : List Int} (h : ∀ i ∈ l, 0 ≤ i) (t : List Int) {j : Nat} (hj : j < 5) : (restr l t)[j]? = some (if (j : Int) ∈ l then t[j]?.getD 0 else 0) := by
  unfold restr
  rw [restr_fold t j l _ h (by simpa using hj), zeros_at j hj]
  split <;> rfl
theorem restr_iff {l : List Int} (h : ∀ i ∈ l, 0 ≤ i ∧ i < 5) (t u : List Int) : restr l t = restr l u ↔ ∀ i ∈ l, t[i.toNat]?.getD 0 = u[i.toNat]?.getD 0 := by
  have h0 : ∀ i ∈ l, 0 ≤ i := fun i hi => (h i hi).1
  constructor
  · intro e i hi
    have hb := h i hi
    have e1 := restr_at h0 t (j := i.toNat) (by omega)
    have e2 := restr_at h0 u (j := i.toNat) (by omega)
    have hm : ((i.toNat : Nat) : Int) ∈ l := by rw [show ((i.toNat : Nat) : Int) = i by omega]; exact hi
    rw [if_pos hm] at e1 e2
    rw [e, e2] at e1
    injection e1 with e1
    exact e1.symm
  · intro e
    apply List.ext_getElem?
    intro j
    by_cases hj : j < 5
    · rw [restr_at h0 t hj, restr_at h0 u hj]
      by_cases hm : (j : Int) ∈ l
      · rw [if_pos hm, if_pos hm]
        have := e _ hm
        simp only [Int.toNat_natCast] at this
        rw [this]
      · rw [if_neg hm, if_neg hm]
    · rw [List.getElem?_eq_none (by rw [restr_len]; omega), List.getElem?_eq_none (by rw [restr_len]; omega)]

/-- Truths that look alike at some layers are of one kind. -/
def consB (l : List Int) (T : List (List Int)) : Bool := decide (∀ t ∈ T, ∀ u ∈ T, restr l t = restr l u → kindL t = kindL u)
theorem consB_iff (l : List Int) (T : List (List Int)) : consB l T = true ↔ ∀ t ∈ T, ∀ u ∈ T, restr l t = restr l u → kindL t = kindL u := by unfold consB; simp

theorem kindsOf_iff (T : List (List Int)) : ((kindsOf T).a = true ↔ ∃ t ∈ T, kindL t = 1) ∧ ((kindsOf T).b = true ↔ ∃ t ∈ T, kindL t = 2) ∧ ((kindsOf T).c = true ↔ ∃ t ∈ T, kindL t = 3) ∧ ((kindsOf T).d = true ↔ ∃ t ∈ T, kindL t = 4) := by
  have key : ∀ (T : List (List Int)) (s : S4), ((T.foldl (fun s l => s.add (kindL l)) s).a = true ↔ s.a = true ∨ ∃ t ∈ T, kindL t = 1) ∧ ((T.foldl (fun s l => s.add (kindL l)) s).b = true ↔ s.b = true ∨ ∃ t ∈ T, kindL t = 2) ∧
      ((T.foldl (fun s l => s.add (kindL l)) s).c = true ↔ s.c = true ∨ ∃ t ∈ T, kindL t = 3) ∧ ((T.foldl (fun s l => s.add (kindL l)) s).d = true ↔ s.d = true ∨ ∃ t ∈ T, kindL t = 4) := by
    intro T
    induction T with
    | nil => intro s; simp
    | cons t T ih =>
      intro s
      rw [List.foldl_cons]
      obtain ⟨h1, h2, h3, h4⟩ := ih (s.add (kindL t))
      rw [h1, h2, h3, h4]
      simp only [S4.add, Bool.or_eq_true, decide_eq_true_eq, List.mem_cons, exists_eq_or_imp, or_assoc, and_self]
  have := key T S4.none
  simpa [kindsOf, S4.none] using this

theorem num_one {T : List (List Int)} (h0 : T ≠ []) : ((kindsOf T).num == 1) = consB [] T := by
  obtain ⟨h1, h2, h3, h4⟩ := kindsOf_iff T
  obtain ⟨t0, ht0⟩ := List.exists_mem_of_ne_nil T h0
  rw [Bool.eq_iff_iff, consB_iff]
  simp only [beq_iff_eq]
  have hr : ∀ t u, (restr [] t = restr [] u → kindL t = kindL u) ↔ kindL t = kindL u := fun t u => by simp [restr]
  simp only [hr]
  generalize kindsOf T = s at *
  obtain ⟨a, b, c, d⟩ := s
  simp only at h1 h2 h3 h4
  constructor
  · intro hn t ht u hu
    have kt := kindL_bd t
    have ku := kindL_bd u
    have ft : ∀ v ∈ T, (kindL v = 1 → a = true) ∧ (kindL v = 2 → b = true) ∧ (kindL v = 3 → c = true) ∧ (kindL v = 4 → d = true) := fun v hv =>
      ⟨fun e => h1.2 ⟨v, hv, e⟩, fun e => h2.2 ⟨v, hv, e⟩, fun e => h3.2 ⟨v, hv, e⟩, fun e => h4.2 ⟨v, hv, e⟩⟩
    obtain ⟨t1, t2, t3, t4⟩ := ft t ht
    obtain ⟨u1, u2, u3, u4⟩ := ft u hu
    rcases four kt.1 kt.2 with e | e | e | e <;> rcases four ku.1 ku.2 with e' | e' | e' | e' <;> first
      | (rw [e, e']; done)
      | (exfalso; cases a <;> cases b <;> cases c <;> cases d <;> simp [S4.num] at hn <;> simp_all)
  · intro hall
    have k0 := kindL_bd t0
    have one : ∀ v ∈ T, kindL v = kindL t0 := fun v hv => hall v hv t0 ht0
    have ha : a = decide (kindL t0 = 1) := by
      rw [Bool.eq_iff_iff, h1]; simp; exact ⟨fun ⟨v, hv, e⟩ => by rw [← one v hv]; exact e, fun e => ⟨t0, ht0, e⟩⟩
    have hb : b = decide (kindL t0 = 2) := by
      rw [Bool.eq_iff_iff, h2]; simp; exact ⟨fun ⟨v, hv, e⟩ => by rw [← one v hv]; exact e, fun e => ⟨t0, ht0, e⟩⟩
    have hc : c = decide (kindL t0 = 3) := by
      rw [Bool.eq_iff_iff, h3]; simp; exact ⟨fun ⟨v, hv, e⟩ => by rw [← one v hv]; exact e, fun e => ⟨t0, ht0, e⟩⟩
    have hd : d = decide (kindL t0 = 4) := by
      rw [Bool.eq_iff_iff, h4]; simp; exact ⟨fun ⟨v, hv, e⟩ => by rw [← one v hv]; exact e, fun e => ⟨t0, ht0, e⟩⟩
    subst ha hb hc hd
    rcases four k0.1 k0.2 with e | e | e | e <;> rw [e] <;> decide

theorem gTo_mem (s : Span) (n : Int) : ∀ k : Nat, n ∈ gTo s 0 k ↔ s.lo ≤ n ∧ n < s.lo + (k : Int)
  | 0 => by unfold gTo; simp
  | k + 1 => by
    rw [gTo_succ, if_pos (by simp), List.mem_append, gTo_mem s n k, List.mem_singleton]
    omega
theorem grades_mem (s : Span) (n : Int) : n ∈ gradesOf s 0 ↔ s.lo ≤ n ∧ n ≤ s.hi := by
  unfold gradesOf
  rw [gTo_mem]
  omega
theorem truthsG_mem : ∀ (G : List (List Int)) (t : List Int), t ∈ truthsG G ↔ t.length = G.length ∧ ∀ (i : Nat) g, G[i]? = some g → ∃ n ∈ g, t[i]? = some n
  | [], t => by
    simp [truthsG]
  | g :: G, t => by
    unfold truthsG
    simp only [List.mem_flatMap, List.mem_map]
    constructor
    · rintro ⟨n, hn, u, hu, rfl⟩
      obtain ⟨h1, h2⟩ := (truthsG_mem G u).1 hu
      refine ⟨by simp [h1], fun i g' hi => ?_⟩
      cases i with
      | zero => simp at hi; subst hi; exact ⟨n, hn, by simp⟩
      | succ i => simp at hi; simpa using h2 i g' hi
    · rintro ⟨h1, h2⟩
      obtain ⟨n, hn, h3⟩ := h2 0 g rfl
      match t, h1 with
      | m :: u, h1 =>
        simp at h3
        subst h3
        refine ⟨m, hn, u, (truthsG_mem G u).2 ⟨by simpa using h1, fun i g' hi => ?_⟩, rfl⟩
        simpa using h2 (i + 1) g' (by simpa using hi)
theorem truths_mem {sp : List Span} (h5 : sp.length ≤ 5) (t : List Int) : t ∈ truthsL (sp.zip [0, 0, 0, 0, 0]) ↔ t.length = sp.length ∧ ∀ (i : Nat) x, sp[i]? = some x → ∃ n, (x.lo ≤ n ∧ n ≤ x.hi) ∧ t[i]? = some n := by
  rw [truthsL_G, truthsG_mem, List.length_map, List.length_zip]
  have hmin : min sp.length ([0, 0, 0, 0, 0] : List Int).length = sp.length := by simp; omega
  rw [hmin]
  refine and_congr_right fun hl => ?_
  constructor
  · intro h i x hx
    have hi : i < sp.length := (List.getElem?_eq_some_iff.1 hx).1
    have e : (sp.zip ([0, 0, 0, 0, 0] : List Int))[i]? = some (x, 0) := by rw [List.getElem?_zip_eq_some]; exact ⟨hx, zeros_at i (by omega)⟩
    obtain ⟨n, hn, hn2⟩ := h i (gradesOf x 0) (by rw [List.getElem?_map, e]; rfl)
    exact ⟨n, (grades_mem x n).1 hn, hn2⟩
  · intro h i g hg
    rw [List.getElem?_map] at hg
    cases e : (sp.zip ([0, 0, 0, 0, 0] : List Int))[i]? with
    | none => rw [e] at hg; cases hg
    | some y =>
      rw [e] at hg
      obtain ⟨hx, hz⟩ := List.getElem?_zip_eq_some.1 e
      have hi : i < sp.length := (List.getElem?_eq_some_iff.1 hx).1
      rw [zeros_at i (by omega)] at hz
      injection hz with hz
      simp only [Option.map_some] at hg
      injection hg with hg
      obtain ⟨n, hn, hn2⟩ := h i y.1 hx
      refine ⟨n, ?_, hn2⟩
      rw [← hg, ← hz]
      exact (grades_mem y.1 n).2 hn
theorem truths_ne {sp : List Span} (h5 : sp.length ≤ 5) (hb : ∀ x ∈ sp, x.lo ≤ x.hi) : truthsL (sp.zip [0, 0, 0, 0, 0]) ≠ [] := by
  have : sp.map (·.lo) ∈ truthsL (sp.zip [0, 0, 0, 0, 0]) := (truths_mem h5 _).2 ⟨by simp, fun i x hx => ⟨x.lo, ⟨by omega, hb x (List.mem_of_getElem? hx)⟩, by rw [List.getElem?_map, hx]; rfl⟩⟩
  intro e
  rw [e] at this
  cases this

/-- All numbers of a span. -/
def rangeS (x : Span) : List Int := (List.range (x.hi - x.lo + 1).toNat).map fun (q : Nat) => x.lo + (q : Int)
theorem rangeS_mem (x : Span) (n : Int) : n ∈ rangeS x ↔ x.lo ≤ n ∧ n ≤ x.hi := by
  unfold rangeS
  simp only [List.mem_map, List.mem_range]
  constructor
  · rintro ⟨q, hq, rfl⟩; omega
  · intro h; exact ⟨(n - x.lo).toNat, by omega, by omega⟩
/-- As the reference decides. -/
def decR (sp : List Span) : List Int → Bool
  | [] => (rk S4.none (exts [] (zOf sp))).num == 1
  | i :: l => match sp[i.toNat]? with
    | some x => (rangeS x).all fun n => decR (sp.set i.toNat ⟨n, n⟩) l
    | none => true

theorem set_mem {sp : List Span} (h5 : sp.length ≤ 5) {i : Nat} {x : Span} (hx : sp[i]? = some x) {n : Int} (hn : x.lo ≤ n ∧ n ≤ x.hi) (t : List Int) :
    t ∈ truthsL ((sp.set i ⟨n, n⟩).zip [0, 0, 0, 0, 0]) ↔ t ∈ truthsL (sp.zip [0, 0, 0, 0, 0]) ∧ t[i]? = some n := by
  have hi : i < sp.length := (List.getElem?_eq_some_iff.1 hx).1
  rw [truths_mem (by rw [List.length_set]; exact h5), truths_mem h5, List.length_set]
  constructor
  · rintro ⟨h1, h2⟩
    obtain ⟨m, hm, hm2⟩ := h2 i ⟨n, n⟩ (by rw [List.getElem?_set, if_pos rfl, if_pos hi])
    dsimp only at hm
    obtain rfl : m = n := by omega
    refine ⟨⟨h1, fun k y hy => ?_⟩, hm2⟩
    by_cases hk : i = k
    · subst hk
      rw [hx] at hy
      injection hy with hy
      subst hy
      exact ⟨_, hn, hm2⟩
    · exact h2 k y (by rw [List.getElem?_set, if_neg hk]; exact hy)
  · rintro ⟨⟨h1, h2⟩, h3⟩
    refine ⟨h1, fun k y hy => ?_⟩
    rw [List.getElem?_set] at hy
    by_cases hk : i = k
    · subst hk
      rw [if_pos rfl, if_pos hi] at hy
      injection hy with hy
      subst hy
      exact ⟨n, ⟨Int.le_refl _, Int.le_refl _⟩, h3⟩
    · rw [if_neg hk] at hy
      exact h2 k y hy

theorem decR_eq : ∀ (l : List Int) (sp : List Span), sp.length ≤ 5 → 0 < sp.length → (∀ x ∈ sp, 1 ≤ x.lo ∧ x.lo ≤ x.hi ∧ x.hi ≤ 9) → (∀ i ∈ l, 0 ≤ i ∧ i < (sp.length : Int)) →
    decR sp l = consB l (truthsL (sp.zip [0, 0, 0, 0, 0]))
  | [], sp, h5, h0, hb, _ => by
    unfold decR
    rw [rk_eq h5 h0 (fun x hx => by have := hb x hx; omega)]
    exact num_one (truths_ne h5 fun x hx => (hb x hx).2.1)
  | i :: l, sp, h5, h0, hb, hl => by
    have hi := hl i (List.mem_cons_self ..)
    have hl' : ∀ k ∈ l, 0 ≤ k ∧ k < (sp.length : Int) := fun k hk => hl k (List.mem_cons_of_mem _ hk)
    have h5' : ∀ k ∈ l, 0 ≤ k ∧ k < 5 := fun k hk => by have := hl' k hk; omega
    have h5c : ∀ k ∈ i :: l, 0 ≤ k ∧ k < 5 := fun k hk => by have := hl k hk; omega
    obtain ⟨x, hx⟩ : ∃ x, sp[i.toNat]? = some x := ⟨_, List.getElem?_eq_getElem (by omega)⟩
    have hxb := hb x (List.mem_of_getElem? hx)
    unfold decR
    rw [hx]
    simp only
    rw [Bool.eq_iff_iff, List.all_eq_true, consB_iff]
    have ih : ∀ n ∈ rangeS x, decR (sp.set i.toNat ⟨n, n⟩) l = consB l (truthsL ((sp.set i.toNat ⟨n, n⟩).zip [0, 0, 0, 0, 0])) := fun n hn => by
      have hn := (rangeS_mem x n).1 hn
      exact decR_eq l _ (by rw [List.length_set]; exact h5) (by rw [List.length_set]; exact h0) (fun y hy => by
        rcases List.mem_or_eq_of_mem_set hy with hy | rfl
        · exact hb y hy
        · dsimp only; omega) (by rw [List.length_set]; exact hl')
    constructor
    · intro h t ht u hu e
      have e2 := (restr_iff h5c t u).1 e
      obtain ⟨_, h2⟩ := (truths_mem h5 t).1 ht
      obtain ⟨_, h3⟩ := (truths_mem h5 u).1 hu
      obtain ⟨n, hn, htn⟩ := h2 _ x hx
      obtain ⟨m, hm, hum⟩ := h3 _ x hx
      have e3 := e2 i (List.mem_cons_self ..)
      rw [htn, hum] at e3
      simp at e3
      subst e3
      have hd := h n ((rangeS_mem x n).2 hn)
      rw [ih n ((rangeS_mem x n).2 hn), consB_iff] at hd
      exact hd t ((set_mem h5 hx hn t).2 ⟨ht, htn⟩) u ((set_mem h5 hx hn u).2 ⟨hu, hum⟩) ((restr_iff h5' t u).2 fun k hk => e2 k (List.mem_cons_of_mem _ hk))
    · intro h n hn
      rw [ih n hn, consB_iff]
      have hn := (rangeS_mem x n).1 hn
      intro t ht u hu e
      obtain ⟨ht1, ht2⟩ := (set_mem h5 hx hn t).1 ht
      obtain ⟨hu1, hu2⟩ := (set_mem h5 hx hn u).1 hu
      refine h t ht1 u hu1 ((restr_iff h5c t u).2 fun k hk => ?_)
      rcases List.mem_cons.1 hk with rfl | hk
      · rw [ht2, hu2]
      · exact (restr_iff h5' t u).1 e k hk

/-! lists of numbers -/
def combos : Nat → List Int → List (List Int)
  | 0, _ => [[]]
  | _ + 1, [] => []
  | n + 1, x :: r => (combos n r).map (x :: ·) ++ combos (n + 1) r
def listsL (all : List Int) (most : Nat) : List (List Int) := (List.range (min most all.length + 1)).flatMap fun n => combos n all
def ints (n : Nat) : List Int := (List.range n).map fun (i : Nat) => (i : Int)
def setOf (n s : Nat) : List Int := ((List.range n).filter fun i => s / 2 ^ i % 2 == 1).map fun (i : Nat) => (i : Int)
def setsL (n : Nat) : List (List Int) := (List.range (2 ^ n)).map (setOf n)
def lexL : List Int → List Int → Bool
  | x :: a, y :: b => if x ≠ y then decide (x < y) else lexL a b
  | _, _ => false
def beforeL (a b : List Int) : Bool := if a.length ≠ b.length then decide (a.length < b.length) else lexL a b
theorem lex_trans : ∀ {a b c : List Int}, lexL a b = true → lexL b c = true → lexL a c = true
  | x :: a, y :: b, z :: c, h1, h2 => by
    unfold lexL at h1 h2 ⊢
    by_cases hxy : x = y
    · subst hxy
      simp only [ne_eq, not_true, if_false] at h1
      by_cases hxz : x = z
      · subst hxz
        simp only [ne_eq, not_true, if_false] at h2 ⊢
        exact lex_trans h1 h2
      · simp only [ne_eq, hxz, not_false_eq_true, if_true] at h2 ⊢
        exact h2
    · simp only [ne_eq, hxy, not_false_eq_true, if_true, decide_eq_true_eq] at h1
      by_cases hyz : y = z
      · subst hyz
        simp only [ne_eq, hxy, not_false_eq_true, if_true, decide_eq_true_eq]
        exact h1
      · simp only [ne_eq, hyz, not_false_eq_true, if_true, decide_eq_true_eq] at h2
        rw [if_pos (by omega)]
        simp only [decide_eq_true_eq]
        omega
  | [], _, _, h1, _ => by simp [lexL] at h1
  | _ :: _, [], _, h1, _ => by simp [lexL] at h1
  | _ :: _, _ :: _, [], _, h2 => by simp [lexL] at h2
theorem before_trans {a b c : List Int} (h1 : beforeL a b = true) (h2 : beforeL b c = true) : beforeL a c = true := by
  unfold beforeL at *
  split at h1
  · simp only [decide_eq_true_eq] at h1
    split at h2
    · simp only [decide_eq_true_eq] at h2
      rw [if_pos (by omega)]; simp; omega
    · rw [if_pos (by omega)]; simp; omega
  · split at h2
    · simp only [decide_eq_true_eq] at h2
      rw [if_pos (by omega)]; simp; omega
    · rw [if_neg (by omega)]; exact lex_trans h1 h2
def pickStep (f : List Int → Bool) (s : List Int × Bool) (l : List Int) : List Int × Bool := if (!s.2 || beforeL l s.1) && f l then (l, true) else s
def pickL (f : List Int → Bool) (L : List (List Int)) : List Int × Bool := L.foldl (pickStep f) ([], false)
theorem pickL_snoc (f : List Int → Bool) (L : List (List Int)) (l : List Int) : pickL f (L ++ [l]) = pickStep f (pickL f L) l := by unfold pickL; rw [List.foldl_append]; rfl
theorem rev_ind {α : Type} {p : List α → Prop} (h0 : p []) (h : ∀ L x, p L → p (L ++ [x])) (L : List α) : p L := by
  have key : ∀ M : List α, p M.reverse := by
    intro M
    induction M with
    | nil => exact h0
    | cons x M ih => rw [List.reverse_cons]; exact h _ _ ih
  have := key L.reverse
  rwa [List.reverse_reverse] at this
theorem pick_spec (f : List Int → Bool) (irr : ∀ l, beforeL l l = false) (L : List (List Int)) : ((pickL f L).2 = true → (pickL f L).1 ∈ L ∧ f (pickL f L).1 = true ∧ ∀ l ∈ L, f l = true → beforeL l (pickL f L).1 = false) ∧ ((pickL f L).2 = false → ∀ l ∈ L, f l = false) := by
  refine rev_ind (p := fun L => ((pickL f L).2 = true → (pickL f L).1 ∈ L ∧ f (pickL f L).1 = true ∧ ∀ l ∈ L, f l = true → beforeL l (pickL f L).1 = false) ∧ ((pickL f L).2 = false → ∀ l ∈ L, f l = false)) (by simp [pickL]) (fun L l ih => ?_) L
  rw [pickL_snoc]
  generalize pickL f L = s at *
  obtain ⟨i1, i2⟩ := ih
  unfold pickStep
  by_cases hc : ((!s.2 || beforeL l s.1) && f l) = true
  · rw [if_pos hc]
    simp only [Bool.and_eq_true, Bool.or_eq_true, Bool.not_eq_true'] at hc
    refine ⟨fun _ => ⟨by simp, hc.2, fun x hx hfx => ?_⟩, fun h => by cases h⟩
    rcases List.mem_append.1 hx with hx | hx
    · rcases hc.1 with hs | hs
      · rw [i2 hs x hx] at hfx; cases hfx
      · cases hs2 : s.2 with
        | false => rw [i2 hs2 x hx] at hfx; cases hfx
        | true =>
          have := (i1 hs2).2.2 x hx hfx
          cases hb : beforeL x l with
          | false => rfl
          | true => rw [before_trans hb hs] at this; cases this
    · simp at hx; subst hx; exact irr _
  · rw [if_neg hc]
    refine ⟨fun h => ?_, fun h x hx => ?_⟩
    · obtain ⟨j1, j2, j3⟩ := i1 h
      refine ⟨List.mem_append_left _ j1, j2, fun x hx hfx => ?_⟩
      rcases List.mem_append.1 hx with hx | hx
      · exact j3 x hx hfx
      · simp at hx; subst hx
        rw [h] at hc
        simp only [hfx, Bool.not_true, Bool.false_or, Bool.and_true, Bool.not_eq_true] at hc
        exact hc
    · rcases List.mem_append.1 hx with hx | hx
      · exact i2 h x hx
      · simp at hx; subst hx
        rw [h] at hc
        simp only [Bool.not_false, Bool.true_or, Bool.true_and, Bool.not_eq_true] at hc
        exact hc
theorem lex_irr : ∀ l : List Int, lexL l l = false
  | [] => rfl
  | x :: l => by unfold lexL; simp; exact lex_irr l
theorem before_irr (l : List Int) : beforeL l l = false := by unfold beforeL; simp; exact lex_irr l
theorem pick_first {f : List Int → Bool} {L M : List (List Int)} (h1 : ∀ x ∈ L, x ∈ M) (h2 : ∀ x ∈ M, x ∈ L) (hs : M.Pairwise fun a b => beforeL a b = true) : (pickL f L).1 = (M.find? f).getD [] := by
  obtain ⟨p1, p2⟩ := pick_spec f before_irr L
  cases hr : (pickL f L).2 with
  | false =>
    have := p2 hr
    have hn : M.find? f = none := List.find?_eq_none.2 fun x hx => by rw [this x (h2 x hx)]; simp
    rw [hn]
    have key : ∀ L : List (List Int), (pickL f L).2 = false → (pickL f L).1 = [] := rev_ind (fun _ => rfl) fun L l ih => by
      rw [pickL_snoc]
      unfold pickStep
      split
      · intro h; cases h
      · exact ih
    exact key L hr
  | true =>
    obtain ⟨q1, q2, q3⟩ := p1 hr
    cases hf : M.find? f with
    | none => have := List.find?_eq_none.1 hf _ (h1 _ q1); rw [q2] at this; simp at this
    | some x =>
      obtain ⟨hx, m1, m2, rfl, has⟩ := List.find?_eq_some_iff_append.1 hf
      have hm := h1 _ q1
      rcases List.mem_append.1 hm with hm | hm
      · have := has _ hm; rw [q2] at this; simp at this
      · rcases List.mem_cons.1 hm with hm | hm
        · rw [hm]; rfl
        · have hp := (List.pairwise_cons.1 (List.pairwise_append.1 hs).2.1).1 _ hm
          rw [q3 x (h2 x (by simp)) hx] at hp
          cases hp
set_option maxRecDepth 100000 in
theorem sets_lists (n : Nat) (h0 : 0 < n) (h5 : n ≤ 5) : (∀ x ∈ setsL n, x ∈ listsL (ints n) n) ∧ (∀ x ∈ listsL (ints n) n, x ∈ setsL n) ∧ (listsL (ints n) n).Pairwise fun a b => beforeL a b = true := by
  obtain rfl | rfl | rfl | rfl | rfl : n = 1 ∨ n = 2 ∨ n = 3 ∨ n = 4 ∨ n = 5 := by omega
  all_goals decide +kernel
theorem combos_mem : ∀ {n : Nat} {all x : List Int}, x ∈ combos n all → ∀ i ∈ x, i ∈ all
  | 0, _, x, h, i, hi => by simp [combos] at h; subst h; cases hi
  | n + 1, [], x, h, i, hi => by simp [combos] at h
  | n + 1, y :: r, x, h, i, hi => by
    unfold combos at h
    rcases List.mem_append.1 h with h | h
    · obtain ⟨u, hu, rfl⟩ := List.mem_map.1 h
      rcases List.mem_cons.1 hi with rfl | hi
      · exact List.mem_cons_self ..
      · exact List.mem_cons_of_mem _ (combos_mem hu i hi)
    · exact List.mem_cons_of_mem _ (combos_mem h i hi)
theorem combos_len : ∀ {n : Nat} {all x : List Int}, x ∈ combos n all → x.length = n
  | 0, _, x, h => by simp [combos] at h; subst h; rfl
  | n + 1, [], x, h => by simp [combos] at h
  | n + 1, y :: r, x, h => by
    unfold combos at h
    rcases List.mem_append.1 h with h | h
    · obtain ⟨u, hu, rfl⟩ := List.mem_map.1 h
      simp [combos_len hu]
    · exact combos_len h
theorem lists_mem {all x : List Int} {most : Nat} (h : x ∈ listsL all most) : (∀ i ∈ x, i ∈ all) ∧ x.length ≤ most ∧ x.length ≤ all.length := by
  unfold listsL at h
  obtain ⟨n, hn, hx⟩ := List.mem_flatMap.1 h
  have := combos_len hx
  simp at hn
  exact ⟨combos_mem hx, by omega, by omega⟩
theorem ints_mem {n : Nat} {i : Int} (h : i ∈ ints n) : 0 ≤ i ∧ i < (n : Int) := by
  unfold ints at h
  simp only [List.mem_map, List.mem_range] at h
  obtain ⟨j, hj, rfl⟩ := h
  omega
theorem find_congr {α : Type} {f g : α → Bool} : ∀ {L : List α}, (∀ x ∈ L, f x = g x) → L.find? f = L.find? g
  | [], _ => rfl
  | x :: L, h => by
    rw [List.find?_cons, List.find?_cons, h x (List.mem_cons_self ..), find_congr fun y hy => h y (List.mem_cons_of_mem _ hy)]
/-- **Decide: the two answers are one.** -/
theorem decide_eq {sp : List Span} (h5 : sp.length ≤ 5) (h0 : 0 < sp.length) (hb : ∀ x ∈ sp, 1 ≤ x.lo ∧ x.lo ≤ x.hi ∧ x.hi ≤ 9) :
    (pickL (decR sp) (setsL sp.length)).1 = ((listsL (ints sp.length) sp.length).find? fun l => consB l (truthsL (sp.zip [0, 0, 0, 0, 0]))).getD [] := by
  obtain ⟨h1, h2, h3⟩ := sets_lists sp.length h0 h5
  rw [pick_first h1 h2 h3]
  congr 1
  refine find_congr fun l hl => ?_
  exact decR_eq l sp h5 h0 hb fun i hi => ints_mem ((lists_mem hl).1 i hi)
end Go.Proofs.YtfhmfbhpehldpaaGreatDoor
