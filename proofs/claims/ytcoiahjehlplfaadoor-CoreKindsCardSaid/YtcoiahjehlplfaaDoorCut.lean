/- core.cuts once more: its list lies in new memory. -/
import Derived.Test.YtcoiahjehlplfaaDoorKind
import Derived.Test.YtcoiahjehlplfaaDoorRKindB
import Derived.Test.YtcoiahjehlplfaaDoorKinds
import Derived.Test.YtcoiahjehlplfaaDoorCoreU
import Derived.LoopIn
namespace Go.Proofs.YtcoiahjehlplfaaDoor
open Go.RowKit Go.Shelf
set_option maxRecDepth 100000
set_option linter.unusedSimpArgs false

set_option maxHeartbeats 1000000 in
theorem cutsOwn_any (l : List Int) (v : Value) (w : World) (hs : SlI w v l) (h0 : 0 < l.length) (hlen : l.length ≤ 1000) (hb : Small l) :
    Calls Tryd.prog 76 #[v] w fun e w' => ∃ v', e = .returned v' ∧ Own encI 3 1 w' w.heap.size v' (cutsL l) ∧ Ext w w' := by
  have HS := Lib.hid hs
  obtain ⟨A, n, c, rfl, hn, hlc, hcm⟩ := hs.form
  have hn0 : 0 < n := by have := hn.out; omega
  obtain ⟨b, off, x, rfl, -, -, -⟩ := hs.at_ hn0
  have hn1000 : n ≤ 1000 := by have := hn.out; omega
  have HB := Lib.hid hb; have H0 := Lib.hid h0
  clear hs hb h0 hlen
  have hcm' : c ≤ maxLen := hcm
  go_enter Tryd.func76, Tryd.ntmps76
  go_wp2
  cases hal : alikeL l with
  | true =>
    have HAL := Lib.hid hal
    clear hal
    go_loopg [3, 4] 1 (fun gg s3 s4 wr => s4 = .int .i64 1 ∧ s3 = .slice none 0 0 ∧ Aside (Ext w wr))
    case atStart => exact ⟨rfl, rfl, Ext.refl _⟩
    case round =>
      obtain ⟨rfl, rfl, BW⟩ := hrel
      have hfin : ∀ W, Own encI 3 1 W w.heap.size (.slice none 0 0) (cutsL l) := fun W => by unfold cutsL; rw [if_pos HAL.out]; exact Own.nil _ _
      have HFI := Lib.hid hfin; clear hfin
      by_cases h1 : 1 < n
      · have h1z : (1 : Int) < (n : Int) := by omega
        go_wp2_with fail
        refine (alike_any l _ _ (HS.out.ext BW.out) H0.out HB.out).mono ?_
        rintro e w1 ⟨rfl, hE⟩
        rw [HAL.out]
        go_wp2
        go_ret
        exact ⟨_, rfl, HFI.out _, BW.out.trans hE⟩
      · have h1z : ¬ (1 : Int) < (n : Int) := by omega
        go_wp2
        go_ret
        exact ⟨_, rfl, HFI.out _, BW.out⟩
  | false =>
    have HAL := Lib.hid hal
    clear hal
    go_loopg [3, 4] n (fun gg s3 s4 wr => ∃ kk : Nat, 1 ≤ kk ∧ kk ≤ n ∧ n - kk ≤ gg ∧ s4 = .int .i64 kk ∧ Aside (Own encI 3 1 wr w.heap.size s3 (cutsTo l kk)) ∧ Aside (Ext w wr))
    case atStart => exact ⟨1, by omega, by omega, by omega, rfl, Own.nil _ _, Ext.refl _⟩
    case round =>
      obtain ⟨kk, h1, hkk, hg, rfl, OW, BW⟩ := hrel
      by_cases hlt : kk < n
      · have hltz : (kk : Int) < (n : Int) := by omega
        have hkz : (0 : Int) ≤ (kk : Int) := by omega
        have hkc : (kk : Int) ≤ (c : Int) := by omega
        have hnc : ¬ (c = kk) := by omega
        have T1 := Lib.hid (HS.out.take (k := kk) (c' := c) (by omega) (by omega) hcm')
        have T2 := Lib.hid (show SlI w (.slice (some ⟨b, off + kk, none⟩) (n - kk) (c - kk)) (l.drop kk) by simpa only [Nat.mul_one] using HS.out.drop (k := kk) (c' := c - kk) (by omega) (by omega))
        have L1 := Lib.hid (show 0 < (l.take kk).length by rw [List.length_take]; have := hn.out; omega)
        have L2 := Lib.hid (show 0 < (l.drop kk).length by rw [List.length_drop]; have := hn.out; omega)
        have HCU := Lib.hid (show cutAt l kk = (alikeL (l.take kk) && alikeL (l.drop kk)) by unfold cutAt; rw [decide_eq_true h1, Bool.true_and])
        go_wp2_with fail
        refine (alike_any l _ _ (HS.out.ext BW.out) H0.out HB.out).mono ?_
        rintro e w1 ⟨rfl, hE⟩
        rw [HAL.out]
        have E1 := Lib.hid (BW.out.trans hE)
        have O1 := Lib.hid (OW.out.ext hE)
        clear hE BW OW
        go_wp2_with fail
        refine (alike_any (l.take kk) _ _ (T1.out.ext E1.out) L1.out (HB.out.take kk)).mono ?_
        rintro e w2 ⟨rfl, hE⟩
        have E2 := Lib.hid (E1.out.trans hE)
        have O2 := Lib.hid (O1.out.ext hE)
        clear hE O1 E1
        cases ha1 : alikeL (l.take kk) with
        | false =>
          have HC1 := Lib.hid (show cutsTo l (kk + 1) = cutsTo l kk by rw [cutsTo, HCU.out, ha1]; simp)
          clear ha1
          go_wp2
          go_roundg (n - (kk + 1))
          case measure => omega
          case rel => exact ⟨kk + 1, by omega, by omega, by omega, rfl, by rw [HC1.out]; exact O2.out, E2.out⟩
        | true =>
          have HA1 := Lib.hid ha1
          clear ha1
          go_wp2_with fail
          refine (alike_any (l.drop kk) _ _ (T2.out.ext E2.out) L2.out (HB.out.drop kk)).mono ?_
          rintro e w3 ⟨rfl, hE⟩
          have E3 := Lib.hid (E2.out.trans hE)
          have O3 := Lib.hid (O2.out.ext hE)
          clear hE O2 E2
          cases ha2 : alikeL (l.drop kk) with
          | false =>
            have HC1 := Lib.hid (show cutsTo l (kk + 1) = cutsTo l kk by rw [cutsTo, HCU.out, HA1.out, ha2]; simp)
            clear ha2
            go_wp2
            go_roundg (n - (kk + 1))
            case measure => omega
            case rel => exact ⟨kk + 1, by omega, by omega, by omega, rfl, by rw [HC1.out]; exact O3.out, E3.out⟩
          | true =>
            have HC1 := Lib.hid (show cutsTo l (kk + 1) = cutsTo l kk ++ [(kk : Int)] by rw [cutsTo, HCU.out, HA1.out, ha2]; simp)
            have HCL := Lib.hid (cutsTo_len l kk)
            clear ha2
            go_wp2_with (at_builtin; refine wpList_app encI 56 3 1 _ 8 Tryd.underlying56 info3x rfl (by decide) (by decide) (fun _ => rfl) encI_one rfl (.tmp 26) (.tmp 28) rfl w.heap.size _ (cutsTo l kk) rfl (O3.out.alloc _) w3.heap.size 1 (kk : Int) rfl (cells1 (by simp [go_sem])) (by have := HCL.out; omega) (by have := E3.out.size; simp; omega) ?_)
            intro g cap w' hown hg2 hbel _
            have HO := Lib.hid hown; clear hown
            have HBE := Lib.hid (show Ext w w' from Below.trans (E3.out.alloc _) hbel); clear hbel
            go_wp2
            go_roundg (n - (kk + 1))
            case measure => omega
            case rel => exact ⟨kk + 1, by omega, by omega, by omega, rfl, by rw [HC1.out]; exact HO.out, HBE.out⟩
      · have HKE := Lib.hid (show cutsL l = cutsTo l kk by unfold cutsL; rw [HAL.out, show l.length = kk by have := hn.out; omega]; rfl)
        go_wp2
        go_ret
        exact ⟨_, rfl, by rw [HKE.out]; exact OW.out, BW.out⟩
theorem Own.block_ge {W : World} {base n c : Nat} {A : Option Addr} {l : List Int} (h : Own encI 3 1 W base (.slice A n c) l) : ∀ b o, A = some ⟨b, o, none⟩ → base ≤ b := by
  rcases h.2 with ⟨hv, _⟩ | ⟨g, cap, _, hv, hg, _⟩
  · injection hv with e1 e2 e3
    subst e1
    intro b o e; cases e
  · injection hv with e1 e2 e3
    subst e1
    intro b o e
    injection e with e; injection e with e1 e2
    omega
end Go.Proofs.YtcoiahjehlplfaaDoor
/- core.Kind. -/
namespace Go.Proofs.YtcoiahjehlplfaaDoor
open Go.RowKit Go.Shelf
set_option maxRecDepth 100000
set_option linter.unusedSimpArgs false

theorem f73_any (r : Int) (g : Nat) (w : World) (h1 : w.cell? ⟨g, 0, none⟩ = some (.int .i64 r)) :
    Calls Tryd.prog 73 #[.pointer (some ⟨g, 0, none⟩)] w fun e w' => e = .returned (.bool (inB 1 4 r)) ∧ Ext w w' := by
  go_enter Tryd.func73, Tryd.ntmps73
  go_wp2_with fail
  refine (in1_any 1 4 r _ _ (by simp) (by simp [go_sem])).mono ?_
  rintro e w1 ⟨rfl, hb⟩
  have HB := Lib.hid hb; clear hb
  go_wp2
  go_ret
  exact ⟨rfl, (Ext.al _ _).trans HB.out⟩

set_option maxHeartbeats 4000000 in
theorem kindC_any (b : Bale) (r : Int) (dv wv : Value) (w : World) (hT : Tab w) (hd : SlD w dv b.draws) (hw : SlW w wv b.weighs) :
    Calls Tryd.prog 30 #[valB b dv wv, .int .i64 r] w fun e w' => e = .returned (.tuple #[.int .u8 (kindB b r), .int .i64 (askE b (inB 1 4 r) 32)]) ∧ Ext w w' := by
  have HT := Lib.hid hT
  have HD := Lib.hid hd
  have HW := Lib.hid hw
  obtain ⟨A, n, cp, rfl, hn, hlc, hcm⟩ := hd.form
  obtain ⟨A2, n2, cp2, rfl, hn2, hlc2, hcm2⟩ := hw.form
  clear hd hw hT
  go_enter Tryd.func30, Tryd.ntmps30
  go_wp2_with fail
  refine (asked_fn b _ _ _ 73 _ (enters_of Tryd.func73 (by kernel_rfl) rfl) (inB 1 4 r) 32 (by decide) (fun hv W hW => f73_any r _ W ((hW.cell (p := ⟨w.heap.size + 1, 0, none⟩) (by simp)).trans (by simp [go_sem]))) ((HT.out.ext (Ext.al _ _)).ext (Ext.al _ _)) ((HD.out.ext (Ext.al _ _)).ext (Ext.al _ _)) ((HW.out.ext (Ext.al _ _)).ext (Ext.al _ _))).mono ?_
  rintro e w1 ⟨pv, rfl, hpv, hpz, hE⟩
  have HEW := Lib.hid (((Ext.al w _).alloc _ : Ext w _).trans hE)
  have HBD := Lib.hid ((Blk.at_ (t := 3) (cs := #[.int .i64 r]) (w := w.alloc (.cells #[.int .i64 b.id, .int .i64 b.layers, .int .i64 b.dry.lo, .int .i64 b.dry.hi, .slice A n cp, .slice A2 n2 cp2] 27)) (g := w.heap.size + 1) (by simp)).ext hE)
  clear hE
  by_cases hz9 : askE b (inB 1 4 r) 32 = 0
  · obtain ⟨sv, lv, rfl, hs, hl⟩ := hpv hz9
    obtain ⟨h1, h2, h3⟩ := askE_zero hz9 (by decide)
    have hb5 := valid_bds h1
    have hr : 1 ≤ r ∧ r ≤ 4 := by unfold inB at h2; simpa using h2
    have HK := Lib.hid (show kindB b r = kindK (kindS b) r by unfold kindB; rw [if_pos hz9])
    have HZ := Lib.hid hz9
    obtain ⟨Al, nl, cl, rfl, hnl, hlc', hlm⟩ := hl.form
    have hln := spans_len b
    have hl0 : 0 < (spans b).length := by have := hb5.l1; omega
    have hl5 : (spans b).length ≤ 5 := by have := hb5.l5; omega
    obtain ⟨As, cs, rfl, hsc, hsm, hcx⟩ := id hs
    obtain ⟨bs, os, rfl, -, -⟩ := hcx hl0
    have HS := Lib.hid hs
    have hbd : ∀ x ∈ spans b, 0 ≤ x.lo ∧ x.lo ≤ 1000 ∧ x.hi ≤ 1000 := fun x hx => by have := spans_bd h1 x hx; omega
    have HMA := Lib.hid (fun W hS => kinds_any b (.slice A n cp) (.slice A2 n2 cp2) (.slice Al nl cl) bs os cs (spans b) 0 0 0 0 0 W hl5 hl0 hbd hS)
    generalize hsp : spans b = sp at *
    have HSP := Lib.hid hsp
    rw [hz9]
    dsimp only [valP]
    clear hz9 hs hl hsc hsm hcx hbd hb5 h1 h2 h3 hpv hpz hsp hln hl0 hl5
    have hlt := HBD.out.lt
    have d0 := HBD.out.cell 0
    simp at d0
    go_wp2_with fail
    refine (HMA.out _ (HS.out.ext (Ext.al _ _))).mono ?_
    rintro e w5 ⟨m, rfl, hmi, hE5⟩
    have HB5 := Lib.hid ((HBD.out.alloc _).ext hE5)
    have HE5 := Lib.hid ((HEW.out.trans (Ext.al _ _)).trans hE5); clear hE5
    have HKS := Lib.hid (show kindS b = kindsOf (truthsL (sp.zip [0, 0, 0, 0, 0])) by unfold kindS; rw [HSP.out])
    generalize kindsOf (truthsL (sp.zip [0, 0, 0, 0, 0])) = s at *
    have lk := hmi.look hr.1 hr.2
    have ln := hmi.len 3
    have hnm := S4.num_le s
    have e0 := HB5.out.cell 0
    simp at e0
    clear hmi d0
    cases hh : s.has r with
    | false =>
      rw [hh] at lk
      have HKK := Lib.hid (show kindK s r = 0 by unfold kindK; rw [hh]; rfl)
      go_wp2
      refine bodyPost_ret (v := .tuple #[.int .u8 0, .int .i64 0]) (by simp [results, Tryd.results30, go_sem]) rfl ?_
      exact ⟨by rw [HK.out, HZ.out, HKS.out, HKK.out], HE5.out⟩
    | true =>
      rw [hh] at lk
      by_cases hn1 : s.num = 1
      · have HKK := Lib.hid (show kindK s r = 2 by unfold kindK; rw [hh, hn1]; rfl)
        rw [hn1] at ln
        clear hn1 hnm
        go_wp2
        refine bodyPost_ret (v := .tuple #[.int .u8 2, .int .i64 0]) (by simp [results, Tryd.results30, go_sem]) rfl ?_
        exact ⟨by rw [HK.out, HZ.out, HKS.out, HKK.out], HE5.out⟩
      · have HKK := Lib.hid (show kindK s r = 1 by unfold kindK; rw [if_pos hh, if_neg hn1])
        have hn2 : ¬ ((s.num : Int) = 1) := by omega
        clear hn1
        go_wp2
        refine bodyPost_ret (v := .tuple #[.int .u8 1, .int .i64 0]) (by simp [results, Tryd.results30, go_sem]) rfl ?_
        exact ⟨by rw [HK.out, HZ.out, HKS.out, HKK.out], HE5.out⟩
  · have HK := Lib.hid (show kindB b r = 0 by unfold kindB; rw [if_neg hz9])
    obtain rfl := hpz hz9
    generalize hE9 : askE b (inB 1 4 r) 32 = E at hz9
    have HE9 := Lib.hid hE9; clear hE9 hpv hpz
    have HE1 := Lib.hid (HEW.out.alloc (.cells #[.int .i64 0, .int .i64 0, .int .i64 0, .int .i64 0, .slice none 0 0, .slice none 0 0, .slice none 0 0, .slice none 0 0] 82))
    go_wp2
    refine bodyPost_ret (v := .tuple #[.int .u8 0, .int .i64 E]) (by simp [results, Tryd.results30, go_sem]) rfl ?_
    exact ⟨by rw [HK.out, HE9.out], HE1.out⟩
end Go.Proofs.YtcoiahjehlplfaaDoor
/- core.Cut. -/
namespace Go.Proofs.YtcoiahjehlplfaaDoor
open Go.RowKit Go.Shelf Go.Lib
set_option maxRecDepth 100000
set_option linter.unusedSimpArgs false
attribute [local go_sem] Oper.semAt_some

def cutStep (s : Span) (k : Int) : Span := ⟨min s.lo k, max s.hi k⟩
def cutFold (s : Span) (ls : List (List Int)) : Span := ls.foldl (fun s l => (cutsL l).foldl cutStep s) s
theorem cutFold_snoc (s : Span) (ls : List (List Int)) (l : List Int) : cutFold s (ls ++ [l]) = (cutsL l).foldl cutStep (cutFold s ls) := by unfold cutFold; rw [List.foldl_append]; rfl
/-- All truths of a bale. -/
def truthsB (b : Bale) : List (List Int) := truthsL ((spans b).zip [0, 0, 0, 0, 0])
def cutS (b : Bale) : Span := cutFold ⟨b.layers, 0⟩ (truthsB b)
def cutB (b : Bale) : Span := if askE b true 0 = 0 then (if (cutS b).hi = 0 then ⟨0, 0⟩ else cutS b) else ⟨0, 0⟩
def cutE (b : Bale) : Int := if askE b true 0 = 0 then (if (cutS b).hi = 0 then 6 else 0) else askE b true 0

theorem cutsL_len (l : List Int) : (cutsL l).length ≤ l.length := by
  unfold cutsL
  split
  · simp
  · exact cutsTo_len _ _
theorem keep_set {n₀ g : Nat} (A : World) {p : Addr} (hp : p.block = g) (hn : n₀ ≤ g) (u : Value) : Keep n₀ (fun k => k = g) A (A.setCell p u) :=
  ⟨(Below.refl _ A).setCell (by omega) u, fun i _ hx _ => Below.heap_setCell A p u i (by intro e; exact hx (by omega))⟩
theorem Blk.turn {s g : Nat} {t : TypeId} {cs : Array Value} {A B : World} (h : Blk A g t cs) (k : Turn s A B) (h1 : g ≠ s) (h2 : g ≠ s + 1) : Blk B g t cs := (k.block g h.lt h1 h2).trans h
theorem Blk.keep {n₀ g : Nat} {X : Nat → Prop} {t : TypeId} {cs : Array Value} {A B : World} (h : Blk A g t cs) (k : Keep n₀ X A B) (hx : ¬ X g) : Blk B g t cs := (k.c g h.lt hx ⟨_, _, _, h⟩).trans h

set_option maxHeartbeats 4000000 in
theorem cut_any (b : Bale) (dv wv : Value) (w : World) (hT : Tab w) (hd : SlD w dv b.draws) (hw : SlW w wv b.weighs) :
    Calls Tryd.prog 32 #[valB b dv wv] w fun e w' => e = .returned (.tuple #[valS (cutB b), .int .i64 (cutE b)]) ∧ Ext w w' := by
  have HT := Lib.hid hT
  have HD := Lib.hid hd
  have HW := Lib.hid hw
  obtain ⟨A, n, cp, rfl, hn, hlc, hcm⟩ := hd.form
  obtain ⟨A2, n2, cp2, rfl, hn2, hlc2, hcm2⟩ := hw.form
  clear hd hw hT
  refine calls_of_wp_marks Tryd.func32 rfl ?_
  simp only [Tryd.ntmps32, List.size_toArray, List.length_cons, List.length_nil, Nat.reduceAdd, Nat.reduceSub, Array.replicate_succ, Array.replicate_zero, List.push_toArray, List.append_toArray, List.nil_append, List.cons_append]
  go_wp2_with fail
  refine (asked_nil b _ _ _ ((HT.out.ext (Ext.al _ _)).ext (Ext.al _ _)) ((HD.out.ext (Ext.al _ _)).ext (Ext.al _ _)) ((HW.out.ext (Ext.al _ _)).ext (Ext.al _ _))).mono ?_
  rintro e w1 ⟨pv, rfl, hpv, hpz, hE⟩
  have HEW := Lib.hid (((Ext.al w _).alloc _ : Ext w _).trans hE)
  have HBR := Lib.hid ((Blk.at_ (t := 23) (cs := #[.int .i64 0, .int .i64 0]) (w := w.alloc (.cells #[.int .i64 b.id, .int .i64 b.layers, .int .i64 b.dry.lo, .int .i64 b.dry.hi, .slice A n cp, .slice A2 n2 cp2] 27)) (g := w.heap.size + 1) (by simp)).ext hE)
  clear hE
  by_cases hz9 : askE b true 0 = 0
  · obtain ⟨sv, lv, rfl, hs, hl⟩ := hpv hz9
    obtain ⟨h1, h3⟩ : valid b = true ∧ okB b = true := by
      unfold askE at hz9
      split at hz9
      · simp at hz9; exact ⟨by assumption, hz9⟩
      · cases hz9
    have hb5 := valid_bds h1
    obtain ⟨Al, nl, cl, rfl, hnl, hlc', hlm⟩ := hl.form
    have hln := spans_len b
    have hl0 : 0 < (spans b).length := by have := hb5.l1; omega
    have hl5 : (spans b).length ≤ 5 := by have := hb5.l5; omega
    obtain ⟨As, cs, rfl, hsc, hsm, hcx⟩ := id hs
    obtain ⟨bs, os, rfl, hbs, -⟩ := hcx hl0
    have HBD := Lib.hid (show ∀ x ∈ spans b, 1 ≤ x.lo ∧ x.lo ≤ 9 ∧ x.hi ≤ 9 ∧ 1 ≤ x.hi from fun x hx => spans_bd h1 x hx)
    have HC := Lib.hid (show cutB b = if (cutS b).hi = 0 then ⟨0, 0⟩ else cutS b by unfold cutB; rw [if_pos hz9])
    have HCE := Lib.hid (show cutE b = if (cutS b).hi = 0 then 6 else 0 by unfold cutE; rw [if_pos hz9])
    have HCS := Lib.hid (show cutS b = cutFold ⟨b.layers, 0⟩ (truthsL ((spans b).zip [0, 0, 0, 0, 0])) from rfl)
    have HS := Lib.hid hs
    have HL0 := Lib.hid hl0; have HL5 := Lib.hid hl5
    have HBS := Lib.hid hbs
    generalize hsp : spans b = sp at *
    rw [hz9]
    dsimp only [valP]
    clear hz9 hs hl hsc hsm hcx hb5 h1 h3 hpv hpz hsp hln hl0 hl5 hbs
    have hlt := HBR.out.lt
    have b0 := HBR.out.cell 0
    have b1 := HBR.out.cell 1
    have bf := HBR.out.frozen
    simp at b0 b1
    go_wp2_with fail
    refine (truths_any b _ _ _ _ _ _ _ _ _ _).mono ?_
    rintro e w6 ⟨rfl, hw6⟩
    have HW6 := Lib.hid hw6; clear hw6
    go_wp2_with fail
    have hw6 := HW6.out
    have hE6 : Ext (w1.alloc (.cells #[.int .i64 b.id, .int .i64 b.layers, .int .i64 b.dry.lo, .int .i64 b.dry.hi, .slice A n cp, .slice A2 n2 cp2, .slice (some ⟨bs, os, none⟩) sp.length cs, .slice Al nl cl] 82)) w6 := by rw [hw6]; exact ((Ext.al _ _).alloc _).alloc _
    have E16 : Ext w1 w6 := (Ext.al _ _).trans hE6
    have hz6 : w6.heap.size = w1.heap.size + 4 := by rw [hw6]; simp
    have hB6 : Blk w6 (w1.heap.size + 1) 23 #[.int .i64 b.layers, .int .i64 0] := by
      rw [hw6]; exact ((Blk.at_ (t := 23) (cs := #[.int .i64 b.layers, .int .i64 0]) (by simp)).alloc _).alloc _
    have hPM : PM (w1.heap.size + 1 + 1) bs os (w1.heap.size + 1 + 1 + 1) cs sp [0, 0, 0, 0, 0] w6 := by
      have hb6 : Blk w6 (w1.heap.size + 1 + 1) 82 #[.int .i64 b.id, .int .i64 b.layers, .int .i64 b.dry.lo, .int .i64 b.dry.hi, .slice A n cp, .slice A2 n2 cp2, .slice (some ⟨bs, os, none⟩) sp.length cs, .slice Al nl cl] := by rw [hw6]; exact (Blk.at_ (by simp)).alloc _
      have hs6 : Blk w6 (w1.heap.size + 1 + 1 + 1) 105 #[.int .i64 0, .int .i64 0, .int .i64 0, .int .i64 0, .int .i64 0] := by rw [hw6]; exact Blk.at_ (by simp)
      refine ⟨hb6.cell 6, fun i x hx => ?_, fun i n hn => ?_⟩
      · obtain ⟨b', off', x', e1, hx', _, hc⟩ := HS.out.at_ (show i < sp.length from (List.getElem?_eq_some_iff.1 hx).1)
        injection e1 with e1
        injection e1 with e1 e2
        subst e1 e2
        rw [hx] at hx'
        injection hx' with hx'
        subst hx'
        exact SlS.cells hc E16
      · have := hs6.cell i
        match i, hn with
        | 0, hn => simp at hn; subst hn; exact this
        | 1, hn => simp at hn; subst hn; exact this
        | 2, hn => simp at hn; subst hn; exact this
        | 3, hn => simp at hn; subst hn; exact this
        | 4, hn => simp at hn; subst hn; exact this
    have HBR6 := Lib.hid (HBR.out.ext E16)
    have HEW6 := Lib.hid (HEW.out.trans E16)
    have HB6 := Lib.hid hB6
    have HZ6 := Lib.hid hz6
    have hwz := HEW6.out.size
    have HLT := Lib.hid hlt
    clear hw6 HW6 hE6 E16 b0 b1 bf
    refine wp_rangeFunc (by rfl) (enters_of Tryd.func108 (by kernel_rfl) rfl) (truths_seqs (w := w6) (X := fun k => k = w1.heap.size + 1) (n₀ := w.heap.size) HL5.out rfl (fun x hx => by have := HBD.out x hx; omega) (fun k h => by omega) (by omega) (by have := HBS.out; omega) (by omega) (by omega) hPM) (Ext.refl _) (by omega)
      (fun x v W r o h hr => sl_put h hr)
      (fun pre W => Blk W (w1.heap.size + 1) 23 #[.int .i64 (cutFold ⟨b.layers, 0⟩ pre).lo, .int .i64 (cutFold ⟨b.layers, 0⟩ pre).hi] ∧ Blk W (w.heap.size + 1) 23 #[.int .i64 0, .int .i64 0] ∧ Below w.heap.size w W)
      (fun _ _ _ => False)
      ?_ ?_ ?_ (fun v => { tmps := #[(valB b (.slice A n cp) (.slice A2 n2 cp2)), .pointer (some ⟨w.heap.size, 0, none⟩), .pointer (some ⟨w.heap.size + 1, 0, none⟩), .int .i64 0, .pointer (some ⟨w1.heap.size, 0, none⟩), .int .i64 0, .pointer (some ⟨w1.heap.size + 1, 0, none⟩), v, undef, undef, .tuple #[(valP b (.slice A n cp) (.slice A2 n2 cp2) (.slice (some ⟨bs, os, none⟩) sp.length cs) (.slice Al nl cl)), .int .i64 0], (valB b (.slice A n cp) (.slice A2 n2 cp2)), .tuple #[(valP b (.slice A n cp) (.slice A2 n2 cp2) (.slice (some ⟨bs, os, none⟩) sp.length cs) (.slice Al nl cl)), .int .i64 0], (valP b (.slice A n cp) (.slice A2 n2 cp2) (.slice (some ⟨bs, os, none⟩) sp.length cs) (.slice Al nl cl)), .int .i64 0, .int .i64 0, .bool false, undef, undef, .pointer (some ⟨w1.heap.size, 0, none⟩), .pointer (some ⟨w1.heap.size, 1, none⟩), .int .i64 b.layers, .agg #[.int .i64 b.layers, .int .i64 0], (valP b (.slice A n cp) (.slice A2 n2 cp2) (.slice (some ⟨bs, os, none⟩) sp.length cs) (.slice Al nl cl)), .agg #[.int .i64 0, .int .i64 0, .int .i64 0, .int .i64 0, .int .i64 0], .func (.func 108) #[] #[.pointer (some ⟨w1.heap.size + 1 + 1, 0, none⟩), .pointer (some ⟨w1.heap.size + 1 + 1 + 1, 0, none⟩)], v, undef, undef, undef, undef, undef, undef, undef, undef, undef, undef, undef, undef, undef, undef, undef, undef, undef, undef, undef, undef, undef, undef, undef], defers := [] }) ?_ ?_ ?_ ?_
    · rintro pre A B ⟨h1, h2, h3⟩ hA hT
      exact ⟨h1.turn hT (by omega) (by omega), h2.turn hT (by omega) (by omega), hT.below h3 (by omega) (by omega)⟩
    · rintro c pre A B h
      exact h.elim
    · intro W hW
      exact ⟨HB6.out.ext hW, HBR6.out.ext hW, HEW6.out.trans hW⟩
    · intro m l v W K hK
      clear hz6 hwz hlt
      gi_wp2
      exact hK
    · rintro m l pre x v W ⟨h1, h2, h3⟩ hv hpre hlt2
      have hx : x ∈ truthsL (sp.zip [0, 0, 0, 0, 0]) := by
        obtain ⟨q, hq⟩ := hpre
        rw [← hq]; simp
      obtain ⟨hxl, hxb⟩ := truthsL_mem hx
      have hxl' : x.length = sp.length := by rw [hxl, List.length_zip]; have := HL5.out; simp; omega
      have HSM := Lib.hid (show Small x from fun n hn => by
        obtain ⟨y, hy, h6, h7⟩ := hxb n hn
        have := HBD.out y.1 (List.of_mem_zip hy).1
        omega)
      have HXL := Lib.hid (show 0 < x.length ∧ x.length ≤ 1000 by have := HL0.out; have := HL5.out; omega)
      have HV := Lib.hid hv; have H1 := Lib.hid h1; have H2 := Lib.hid h2; have H3 := Lib.hid h3
      have q1 : w1.heap.size + 1 < W.heap.size := by omega
      clear hx hxl hxb hxl' hv hpre h1 h2 h3 hz6 hwz hlt hPM hB6
      gi_wp2_with fail
      refine ⟨trivial, wide_depth _, ?_⟩
      refine (CallsIn.inRound l (callsIn_wide.2 (cutsOwn_any x v _ HV.out HXL.out.1 HXL.out.2 HSM.out))).mono ?_
      rintro e W1 ⟨u, rfl, ho, hE⟩
      have hsl : SlI W1 u (cutsL x) := Own.sl (enc := encI) (fun _ => rfl) ho
      obtain ⟨Au, nu, cu, rfl, hnu, -, -⟩ := hsl.form
      have hnub : nu ≤ 1000 := by have h1 := hnu.out; have h2 := cutsL_len x; have h3 := HXL.out.2; omega
      have HBG := Lib.hid (fun b' o e => Own.block_ge ho b' o e)
      have HSL := Lib.hid hsl
      have HB1 := Lib.hid (H1.out.ext hE)
      have HKE := Lib.hid (Keep.ext (n₀ := w.heap.size) (X := fun k => k = w1.heap.size + 1) hE (by have := H3.out.size; omega))
      have HHE := Lib.hid hE
      clear ho hsl hE
      gi_wp2
      gi_loopw [9, 30] (fun _ s30 wr => ∃ kk : Nat, kk ≤ nu ∧ s30 = .int .i64 kk ∧ Aside (Keep w.heap.size (fun k => k = w1.heap.size + 1) W1 wr) ∧ Aside (wr.heap[w6.heap.size]? = W.heap[w6.heap.size]?) ∧ Aside (wr.heap[w6.heap.size + 1]? = W.heap[w6.heap.size + 1]?) ∧ Aside (Blk wr (w1.heap.size + 1) 23 #[.int .i64 (((cutsL x).take kk).foldl cutStep (cutFold ⟨b.layers, 0⟩ pre)).lo, .int .i64 (((cutsL x).take kk).foldl cutStep (cutFold ⟨b.layers, 0⟩ pre)).hi])) (fun _ i _ => nu - (RowKit.intOf i).toNat)
      case atStart => exact ⟨0, by omega, rfl, Keep.refl _, HHE.out.block _ (by omega), HHE.out.block _ (by omega), HB1.out⟩
      case round =>
        obtain ⟨kk, hkk, rfl, KW, D0, D1, BW⟩ := hrel
        by_cases hlt3 : kk < nu
        · have hltz : (kk : Int) < (nu : Int) := by omega
          have hslw := Sl.keep HSL.out KW.out (fun b' o e h => by have := HBG.out b' o e; omega)
          obtain ⟨bu, ou, y, rfl, hy, hbu, hcell⟩ := hslw.at_ hlt3
          have c0 := Sl.int hcell _ (Ext.refl _)
          have HY := Lib.hid (foldl_snoc cutStep (cutFold ⟨b.layers, 0⟩ pre) _ _ _ hy)
          have t0 := BW.out.cell 0
          have t1 := BW.out.cell 1
          have tf := BW.out.frozen
          have tl := BW.out.lt
          simp at t0 t1
          have hz6 := HZ6.out
          clear hslw hy hcell
          gi_wp2
          have hltc := HLT.out
          go_roundw
          case rel => exact ⟨kk + 1, by omega, by simp, (KW.out.trans (keep_set (g := w1.heap.size + 1) (p := ⟨w1.heap.size + 1, _, none⟩) _ rfl (by omega) _)).trans (keep_set (g := w1.heap.size + 1) (p := ⟨w1.heap.size + 1, _, none⟩) _ rfl (by omega) _), ((Below.heap_setCell _ _ _ _ (by dsimp only; omega)).trans (Below.heap_setCell _ _ _ _ (by dsimp only; omega))).trans D0.out, ((Below.heap_setCell _ _ _ _ (by dsimp only; omega)).trans (Below.heap_setCell _ _ _ _ (by dsimp only; omega))).trans D1.out, by
            rw [HY.out]; exact (BW.out.set_ 0 _).set_ 1 _⟩
          case measure => simp [RowKit.intOf]; omega
        · have HTK := Lib.hid (show (cutsL x).take kk = cutsL x from List.take_of_length_le (by have := hnu.out; omega))
          gi_wp2
          have hk := HKE.out.trans KW.out
          have hb : Blk wr (w1.heap.size + 1) 23 #[.int .i64 (cutFold ⟨b.layers, 0⟩ (pre ++ [x])).lo, .int .i64 (cutFold ⟨b.layers, 0⟩ (pre ++ [x])).hi] := by
            have := BW.out
            rw [HTK.out, ← cutFold_snoc] at this
            exact this
          have hz6 := HZ6.out
          exact ⟨hk, D0.out, D1.out, hb, H2.out.keep hk (by have := HLT.out; omega), H3.out.trans hk.b⟩
    · rintro W ⟨h1, h2, h3⟩ hlt2 hK
      rw [← HCS.out] at h1
      generalize cutS b = s at *
      obtain ⟨lo, hi⟩ := s
      have H1 := Lib.hid h1; have H2 := Lib.hid h2; have H3 := Lib.hid h3
      have c0 := h1.cell 0
      have c1 := h1.cell 1
      have ul := h1.lt
      have t0 := h2.cell 0
      have t1 := h2.cell 1
      have tf := h2.frozen
      have tl := h2.lt
      simp at c0 c1 t0 t1
      clear h1 h2 h3 hz6 hwz hPM hB6 hlt
      by_cases h0 : hi = 0
      · subst h0
        go_wp2
        have hK' : ((W.setCell ⟨w.heap.size + 1, 0, none⟩ (.int .i64 0)).setCell ⟨w.heap.size + 1, 1, none⟩ (.int .i64 0)).heap[w6.heap.size]? = some (.deferred (some [])) := ((Below.heap_setCell _ _ _ _ (by have := HZ6.out; have := HLT.out; dsimp only; omega)).trans (Below.heap_setCell _ _ _ _ (by have := HZ6.out; have := HLT.out; dsimp only; omega))).trans hK
        refine ⟨by simp, .inl ⟨_, _, rfl, run_takeDeferred hK', ?_⟩⟩
        have HBW := Lib.hid ((H2.out.set_ 0 (.int .i64 0)).set_ 1 (.int .i64 0))
        have HBW2 := Lib.hid (show Blk (((W.setCell ⟨w.heap.size + 1, 0, none⟩ (.int .i64 0)).setCell ⟨w.heap.size + 1, 1, none⟩ (.int .i64 0)).putObj w6.heap.size (.deferred none)) (w.heap.size + 1) 23 #[.int .i64 0, .int .i64 0] from (World.putObj_heap_other (by have := HZ6.out; have := HLT.out; omega)).trans HBW.out)
        have u0 := HBW2.out.cell 0
        have u1 := HBW2.out.cell 1
        simp at u0 u1
        have hbel : Below w.heap.size w ((W.setCell ⟨w.heap.size + 1, 0, none⟩ (.int .i64 0)).setCell ⟨w.heap.size + 1, 1, none⟩ (.int .i64 0)) := (H3.out.setCell (by dsimp only; omega) _).setCell (by dsimp only; omega) _
        refine ⟨.tuple #[valS ⟨0, 0⟩, .int .i64 6], by simp [results, Tryd.results32, go_sem, u0, u1], ?_, ?_⟩
        · rw [HC.out, HCE.out]; simp
        · exact Turn.below hbel (Turn.put0 (s := w6.heap.size) _ _) (by have := HEW6.out.size; omega) hbel.size
      · have h0' : (hi == 0) = false := by simpa using h0
        go_wp2
        have hK' : ((W.setCell ⟨w.heap.size + 1, 0, none⟩ (.int .i64 lo)).setCell ⟨w.heap.size + 1, 1, none⟩ (.int .i64 hi)).heap[w6.heap.size]? = some (.deferred (some [])) := ((Below.heap_setCell _ _ _ _ (by have := HZ6.out; have := HLT.out; dsimp only; omega)).trans (Below.heap_setCell _ _ _ _ (by have := HZ6.out; have := HLT.out; dsimp only; omega))).trans hK
        refine ⟨by simp, .inl ⟨_, _, rfl, run_takeDeferred hK', ?_⟩⟩
        have HBW := Lib.hid ((H2.out.set_ 0 (.int .i64 lo)).set_ 1 (.int .i64 hi))
        have HBW2 := Lib.hid (show Blk (((W.setCell ⟨w.heap.size + 1, 0, none⟩ (.int .i64 lo)).setCell ⟨w.heap.size + 1, 1, none⟩ (.int .i64 hi)).putObj w6.heap.size (.deferred none)) (w.heap.size + 1) 23 #[.int .i64 lo, .int .i64 hi] from (World.putObj_heap_other (by have := HZ6.out; have := HLT.out; omega)).trans HBW.out)
        have u0 := HBW2.out.cell 0
        have u1 := HBW2.out.cell 1
        simp at u0 u1
        have hbel : Below w.heap.size w ((W.setCell ⟨w.heap.size + 1, 0, none⟩ (.int .i64 lo)).setCell ⟨w.heap.size + 1, 1, none⟩ (.int .i64 hi)) := (H3.out.setCell (by dsimp only; omega) _).setCell (by dsimp only; omega) _
        refine ⟨.tuple #[valS ⟨lo, hi⟩, .int .i64 0], by simp [results, Tryd.results32, go_sem, u0, u1], ?_, ?_⟩
        · rw [HC.out, HCE.out]; simp [h0]
        · exact Turn.below hbel (Turn.put0 (s := w6.heap.size) _ _) (by have := HEW6.out.size; omega) hbel.size
    · rintro c pre W hpre h hlt2 hK
      exact h.elim
  · have HC := Lib.hid (show cutB b = ⟨0, 0⟩ by unfold cutB; rw [if_neg hz9])
    have HCE := Lib.hid (show cutE b = askE b true 0 by unfold cutE; rw [if_neg hz9])
    obtain rfl := hpz hz9
    generalize hE9 : askE b true 0 = E at hz9
    have HE9 := Lib.hid hE9; clear hE9 hpv hpz
    have hlt := HBR.out.lt
    have b0 := HBR.out.cell 0
    have b1 := HBR.out.cell 1
    have bf := HBR.out.frozen
    simp at b0 b1
    go_wp2
    have HBW := Lib.hid (((HBR.out.set_ 0 (.int .i64 0)).set_ 1 (.int .i64 0)).alloc (.cells #[.int .i64 0, .int .i64 0, .int .i64 0, .int .i64 0, .slice none 0 0, .slice none 0 0, .slice none 0 0, .slice none 0 0] 82))
    have u0 := HBW.out.cell 0
    have u1 := HBW.out.cell 1
    simp at u0 u1
    refine ⟨.tuple #[valS ⟨0, 0⟩, .int .i64 E], by simp [results, Tryd.results32, go_sem, u0, u1], ?_, ?_⟩
    · rw [HC.out, HCE.out, HE9.out]
    · exact ((HEW.out.setCell (by dsimp only; omega) _).setCell (by dsimp only; omega) _).alloc _
end Go.Proofs.YtcoiahjehlplfaaDoor
