/- core.cuts once more: its list lies in new memory. -/
import Derived.Test.YtkpengeaolcjhaaGreatDoorPkMlBoundsCardB
import Derived.Test.YtkpengeaolcjhaaGreatDoorPkMlBoundsCardM
import Derived.Test.YtkpengeaolcjhaaGreatDoorPkMlBoundsCardL
import Derived.Test.YtkpengeaolcjhaaGreatDoorPkMlBoundsCardH
import Derived.LoopIn
import Derived.Test.YtkpengeaolcjhaaGreatDoorPkMlBoundsCardJ
import Derived.Lib.SliceRun
namespace Go.Proofs.YtkpengeaolcjhaaGreatDoor
open Go.RowKit Go.Shelf
set_option maxRecDepth 100000
set_option linter.unusedSimpArgs false

set_option maxHeartbeats 1000000 in
theorem cutsOwn_any (l : List Int) (v : Value) (w : World) (hs : SlI w v l) (h0 : 0 < l.length) (hlen : l.length ≤ 1000) (hb : Small l) :
    Calls Tryz.prog 159 #[v] w fun e w' => ∃ v', e = .returned v' ∧ Own encI 3 1 w' w.heap.size v' (cutsL l) ∧ Ext w w' := by
  have HS := Lib.hid hs
  obtain ⟨A, n, c, rfl, hn, hlc, hcm⟩ := hs.form
  have hn0 : 0 < n := by have := hn.out; omega
  obtain ⟨b, off, x, rfl, -, -, -⟩ := hs.at_ hn0
  have hn1000 : n ≤ 1000 := by have := hn.out; omega
  have HB := Lib.hid hb; have H0 := Lib.hid h0
  clear hs hb h0 hlen
  have hcm' : c ≤ maxLen := hcm
  go_enter Tryz.func159, Tryz.ntmps159
  go_wp2
  cases hal : alikeL l with
  | true =>
    have HAL := Lib.hid hal
    clear hal
    go_loopg [3, 4] 1 (fun gg s3 s4 wr => s4 = .int .i64 1 ∧ s3 = .slice none 0 0 ∧ Aside (Ext w wr))
    case atStart => exact ⟨rfl, rfl, Ext.refl _⟩
    case round =>
      obtain ⟨rfl, rfl, BW⟩ := hrel
      have hfin : ∀ W, Own encI 3 1 W w.heap.size (.slice none 0 0) (cutsL l) := fun W => by unfold cutsL; rw [if_pos HAL.out]; exact Own.nil _ _
      have HFI := Lib.hid hfin; clear hfin
      by_cases h1 : 1 < n
      · have h1z : (1 : Int) < (n : Int) := by omega
        go_wp2_with fail
        refine (alike_any l _ _ (HS.out.ext BW.out) H0.out HB.out).mono ?_
        rintro e w1 ⟨rfl, hE⟩
        rw [HAL.out]
        go_wp2
        go_ret
        exact ⟨_, rfl, HFI.out _, BW.out.trans hE⟩
      · have h1z : ¬ (1 : Int) < (n : Int) := by omega
        go_wp2
        go_ret
        exact ⟨_, rfl, HFI.out _, BW.out⟩
  | false =>
    have HAL := Lib.hid hal
    clear hal
    go_loopg [3, 4] n (fun gg s3 s4 wr => ∃ kk : Nat, 1 ≤ kk ∧ kk ≤ n ∧ n - kk ≤ gg ∧ s4 = .int .i64 kk ∧ Aside (Own encI 3 1 wr w.heap.size s3 (cutsTo l kk)) ∧ Aside (Ext w wr))
    case atStart => exact ⟨1, by omega, by omega, by omega, rfl, Own.nil _ _, Ext.refl _⟩
    case round =>
      obtain ⟨kk, h1, hkk, hg, rfl, OW, BW⟩ := hrel
      by_cases hlt : kk < n
      · have hltz : (kk : Int) < (n : Int) := by omega
        have hkz : (0 : Int) ≤ (kk : Int) := by omega
        have hkc : (kk : Int) ≤ (c : Int) := by omega
        have hnc : ¬ (c = kk) := by omega
        have T1 := Lib.hid (HS.out.take (k := kk) (c' := c) (by omega) (by omega) hcm')
        have T2 := Lib.hid (show SlI w (.slice (some ⟨b, off + kk, none⟩) (n - kk) (c - kk)) (l.drop kk) by simpa only [Nat.mul_one] using HS.out.drop (k := kk) (c' := c - kk) (by omega) (by omega))
        have L1 := Lib.hid (show 0 < (l.take kk).length by rw [List.length_take]; have := hn.out; omega)
        have L2 := Lib.hid (show 0 < (l.drop kk).length by rw [List.length_drop]; have := hn.out; omega)
        have HCU := Lib.hid (show cutAt l kk = (alikeL (l.take kk) && alikeL (l.drop kk)) by unfold cutAt; rw [decide_eq_true h1, Bool.true_and])
        go_wp2_with fail
        refine (alike_any l _ _ (HS.out.ext BW.out) H0.out HB.out).mono ?_
        rintro e w1 ⟨rfl, hE⟩
        rw [HAL.out]
        have E1 := Lib.hid (BW.out.trans hE)
        have O1 := Lib.hid (OW.out.ext hE)
        clear hE BW OW
        go_wp2_with fail
        refine (alike_any (l.take kk) _ _ (T1.out.ext E1.out) L1.out (HB.out.take kk)).mono ?_
        rintro e w2 ⟨rfl, hE⟩
        have E2 := Lib.hid (E1.out.trans hE)
        have O2 := Lib.hid (O1.out.ext hE)
        clear hE O1 E1
        cases ha1 : alikeL (l.take kk) with
        | false =>
          have HC1 := Lib.hid (show cutsTo l (kk + 1) = cutsTo l kk by rw [cutsTo, HCU.out, ha1]; simp)
          clear ha1
          go_wp2
          go_roundg (n - (kk + 1))
          case measure => omega
          case rel => exact ⟨kk + 1, by omega, by omega, by omega, rfl, by rw [HC1.out]; exact O2.out, E2.out⟩
        | true =>
          have HA1 := Lib.hid ha1
          clear ha1
          go_wp2_with fail
          refine (alike_any (l.drop kk) _ _ (T2.out.ext E2.out) L2.out (HB.out.drop kk)).mono ?_
          rintro e w3 ⟨rfl, hE⟩
          have E3 := Lib.hid (E2.out.trans hE)
          have O3 := Lib.hid (O2.out.ext hE)
          clear hE O2 E2
          cases ha2 : alikeL (l.drop kk) with
          | false =>
            have HC1 := Lib.hid (show cutsTo l (kk + 1) = cutsTo l kk by rw [cutsTo, HCU.out, HA1.out, ha2]; simp)
            clear ha2
            go_wp2
            go_roundg (n - (kk + 1))
            case measure => omega
            case rel => exact ⟨kk + 1, by omega, by omega, by omega, rfl, by rw [HC1.out]; exact O3.out, E3.out⟩
          | true =>
            have HC1 := Lib.hid (show cutsTo l (kk + 1) = cutsTo l kk ++ [(kk : Int)] by rw [cutsTo, HCU.out, HA1.out, ha2]; simp)
            have HCL := Lib.hid (cutsTo_len l kk)
            clear ha2
            go_wp2_with (at_builtin; refine wpList_app encI 36 3 1 _ 8 Tryz.underlying36 info3x rfl (by decide) (by decide) (fun _ => rfl) encI_one rfl (.tmp 26) (.tmp 28) rfl w.heap.size _ (cutsTo l kk) rfl (O3.out.alloc _) w3.heap.size 1 (kk : Int) rfl (cells1 (by simp [go_sem])) (by have := HCL.out; omega) (by have := E3.out.size; simp; omega) ?_)
            intro g cap w' hown hg2 hbel _
            have HO := Lib.hid hown; clear hown
            have HBE := Lib.hid (show Ext w w' from Below.trans (E3.out.alloc _) hbel); clear hbel
            go_wp2
            go_roundg (n - (kk + 1))
            case measure => omega
            case rel => exact ⟨kk + 1, by omega, by omega, by omega, rfl, by rw [HC1.out]; exact HO.out, HBE.out⟩
      · have HKE := Lib.hid (show cutsL l = cutsTo l kk by unfold cutsL; rw [HAL.out, show l.length = kk by have := hn.out; omega]; rfl)
        go_wp2
        go_ret
        exact ⟨_, rfl, by rw [HKE.out]; exact OW.out, BW.out⟩
theorem Own.block_ge {W : World} {base n c : Nat} {A : Option Addr} {l : List Int} (h : Own encI 3 1 W base (.slice A n c) l) : ∀ b o, A = some ⟨b, o, none⟩ → base ≤ b := by
  rcases h.2 with ⟨hv, _⟩ | ⟨g, cap, _, hv, hg, _⟩
  · injection hv with e1 e2 e3
    subst e1
    intro b o e; cases e
  · injection hv with e1 e2 e3
    subst e1
    intro b o e
    injection e with e; injection e with e1 e2
    omega
end Go.Proofs.YtkpengeaolcjhaaGreatDoor
/- core.Kind. -/
namespace Go.Proofs.YtkpengeaolcjhaaGreatDoor
open Go.RowKit Go.Shelf
set_option maxRecDepth 100000
set_option linter.unusedSimpArgs false

theorem f100_any (r : Int) (g : Nat) (w : World) (h1 : w.cell? ⟨g, 0, none⟩ = some (.int .i64 r)) :
    Calls Tryz.prog 100 #[.pointer (some ⟨g, 0, none⟩)] w fun e w' => e = .returned (.bool (inB 1 4 r)) ∧ Ext w w' := by
  go_enter Tryz.func100, Tryz.ntmps100
  go_wp2_with fail
  refine (in1_any 1 4 r _ _ (by simp) (by simp [go_sem])).mono ?_
  rintro e w1 ⟨rfl, hb⟩
  have HB := Lib.hid hb; clear hb
  go_wp2
  go_ret
  exact ⟨rfl, (Ext.al _ _).trans HB.out⟩

set_option maxHeartbeats 4000000 in
theorem kindC_any (b : Bale) (r : Int) (dv wv : Value) (w : World) (hT : Tab w) (hd : SlD w dv b.draws) (hw : SlW w wv b.weighs) :
    Calls Tryz.prog 65 #[valB b dv wv, .int .i64 r] w fun e w' => e = .returned (.tuple #[.int .u8 (kindB b r), .int .i64 (askE b (inB 1 4 r) 32)]) ∧ Ext w w' := by
  have HT := Lib.hid hT
  have HD := Lib.hid hd
  have HW := Lib.hid hw
  obtain ⟨A, n, cp, rfl, hn, hlc, hcm⟩ := hd.form
  obtain ⟨A2, n2, cp2, rfl, hn2, hlc2, hcm2⟩ := hw.form
  clear hd hw hT
  go_enter Tryz.func65, Tryz.ntmps65
  go_wp2_with fail
  refine (asked_fn b _ _ _ 100 _ (enters_of Tryz.func100 (by kernel_rfl) rfl) (inB 1 4 r) 32 (by decide) (fun hv W hW => f100_any r _ W ((hW.cell (p := ⟨w.heap.size + 1, 0, none⟩) (by simp)).trans (by simp [go_sem]))) ((HT.out.ext (Ext.al _ _)).ext (Ext.al _ _)) ((HD.out.ext (Ext.al _ _)).ext (Ext.al _ _)) ((HW.out.ext (Ext.al _ _)).ext (Ext.al _ _))).mono ?_
  rintro e w1 ⟨pv, rfl, hpv, hpz, hE⟩
  have HEW := Lib.hid (((Ext.al w _).alloc _ : Ext w _).trans hE)
  have HBD := Lib.hid ((Blk.at_ (t := 3) (cs := #[.int .i64 r]) (w := w.alloc (.cells #[.int .i64 b.id, .int .i64 b.layers, .int .i64 b.dry.lo, .int .i64 b.dry.hi, .slice A n cp, .slice A2 n2 cp2] 61)) (g := w.heap.size + 1) (by simp)).ext hE)
  clear hE
  by_cases hz9 : askE b (inB 1 4 r) 32 = 0
  · obtain ⟨sv, lv, rfl, hs, hl⟩ := hpv hz9
    obtain ⟨h1, h2, h3⟩ := askE_zero hz9 (by decide)
    have hb5 := valid_bds h1
    have hr : 1 ≤ r ∧ r ≤ 4 := by unfold inB at h2; simpa using h2
    have HK := Lib.hid (show kindB b r = kindK (kindS b) r by unfold kindB; rw [if_pos hz9])
    have HZ := Lib.hid hz9
    obtain ⟨Al, nl, cl, rfl, hnl, hlc', hlm⟩ := hl.form
    have hln := spans_len b
    have hl0 : 0 < (spans b).length := by have := hb5.l1; omega
    have hl5 : (spans b).length ≤ 5 := by have := hb5.l5; omega
    obtain ⟨As, cs, rfl, hsc, hsm, hcx⟩ := id hs
    obtain ⟨bs, os, rfl, -, -⟩ := hcx hl0
    have HS := Lib.hid hs
    have hbd : ∀ x ∈ spans b, 0 ≤ x.lo ∧ x.lo ≤ 1000 ∧ x.hi ≤ 1000 := fun x hx => by have := spans_bd h1 x hx; omega
    have HMA := Lib.hid (fun W hS => kinds_any b (.slice A n cp) (.slice A2 n2 cp2) (.slice Al nl cl) bs os cs (spans b) 0 0 0 0 0 W hl5 hl0 hbd hS)
    generalize hsp : spans b = sp at *
    have HSP := Lib.hid hsp
    rw [hz9]
    dsimp only [valP]
    clear hz9 hs hl hsc hsm hcx hbd hb5 h1 h2 h3 hpv hpz hsp hln hl0 hl5
    have hlt := HBD.out.lt
    have d0 := HBD.out.cell 0
    simp at d0
    go_wp2_with fail
    refine (HMA.out _ (HS.out.ext (Ext.al _ _))).mono ?_
    rintro e w5 ⟨m, rfl, hmi, hE5⟩
    have HB5 := Lib.hid ((HBD.out.alloc _).ext hE5)
    have HE5 := Lib.hid ((HEW.out.trans (Ext.al _ _)).trans hE5); clear hE5
    have HKS := Lib.hid (show kindS b = kindsOf (truthsL (sp.zip [0, 0, 0, 0, 0])) by unfold kindS; rw [HSP.out])
    generalize kindsOf (truthsL (sp.zip [0, 0, 0, 0, 0])) = s at *
    have lk := hmi.look hr.1 hr.2
    have ln := hmi.len 3
    have hnm := S4.num_le s
    have e0 := HB5.out.cell 0
    simp at e0
    clear hmi d0
    cases hh : s.has r with
    | false =>
      rw [hh] at lk
      have HKK := Lib.hid (show kindK s r = 0 by unfold kindK; rw [hh]; rfl)
      go_wp2
      refine bodyPost_ret (v := .tuple #[.int .u8 0, .int .i64 0]) (by simp [results, Tryz.results65, go_sem]) rfl ?_
      exact ⟨by rw [HK.out, HZ.out, HKS.out, HKK.out], HE5.out⟩
    | true =>
      rw [hh] at lk
      by_cases hn1 : s.num = 1
      · have HKK := Lib.hid (show kindK s r = 2 by unfold kindK; rw [hh, hn1]; rfl)
        rw [hn1] at ln
        clear hn1 hnm
        go_wp2
        refine bodyPost_ret (v := .tuple #[.int .u8 2, .int .i64 0]) (by simp [results, Tryz.results65, go_sem]) rfl ?_
        exact ⟨by rw [HK.out, HZ.out, HKS.out, HKK.out], HE5.out⟩
      · have HKK := Lib.hid (show kindK s r = 1 by unfold kindK; rw [if_pos hh, if_neg hn1])
        have hn2 : ¬ ((s.num : Int) = 1) := by omega
        clear hn1
        go_wp2
        refine bodyPost_ret (v := .tuple #[.int .u8 1, .int .i64 0]) (by simp [results, Tryz.results65, go_sem]) rfl ?_
        exact ⟨by rw [HK.out, HZ.out, HKS.out, HKK.out], HE5.out⟩
  · have HK := Lib.hid (show kindB b r = 0 by unfold kindB; rw [if_neg hz9])
    obtain rfl := hpz hz9
    generalize hE9 : askE b (inB 1 4 r) 32 = E at hz9
    have HE9 := Lib.hid hE9; clear hE9 hpv hpz
    have HE1 := Lib.hid (HEW.out.alloc (.cells #[.int .i64 0, .int .i64 0, .int .i64 0, .int .i64 0, .slice none 0 0, .slice none 0 0, .slice none 0 0, .slice none 0 0] 166))
    go_wp2
    refine bodyPost_ret (v := .tuple #[.int .u8 0, .int .i64 E]) (by simp [results, Tryz.results65, go_sem]) rfl ?_
    exact ⟨by rw [HK.out, HE9.out], HE1.out⟩
end Go.Proofs.YtkpengeaolcjhaaGreatDoor
/- core.Cut. -/
namespace Go.Proofs.YtkpengeaolcjhaaGreatDoor
open Go.RowKit Go.Shelf Go.Lib
set_option maxRecDepth 100000
set_option linter.unusedSimpArgs false
attribute [local go_sem] Oper.semAt_some

def cutStep (s : Span) (k : Int) : Span := ⟨min s.lo k, max s.hi k⟩
def cutFold (s : Span) (ls : List (List Int)) : Span := ls.foldl (fun s l => (cutsL l).foldl cutStep s) s
theorem cutFold_snoc (s : Span) (ls : List (List Int)) (l : List Int) : cutFold s (ls ++ [l]) = (cutsL l).foldl cutStep (cutFold s ls) := by unfold cutFold; rw [List.foldl_append]; rfl
/-- All truths of a bale. -/
def truthsB (b : Bale) : List (List Int) := truthsL ((spans b).zip [0, 0, 0, 0, 0])
def cutS (b : Bale) : Span := cutFold ⟨b.layers, 0⟩ (truthsB b)
def cutB (b : Bale) : Span := if askE b true 0 = 0 then (if (cutS b).hi = 0 then ⟨0, 0⟩ else cutS b) else ⟨0, 0⟩
def cutE (b : Bale) : Int := if askE b true 0 = 0 then (if (cutS b).hi = 0 then 6 else 0) else askE b true 0

theorem cutsL_len (l : List Int) : (cutsL l).length ≤ l.length := by
  unfold cutsL
  split
  · simp
  · exact cutsTo_len _ _
theorem keep_set {n₀ g : Nat} (A : World) {p : Addr} (hp : p.block = g) (hn : n₀ ≤ g) (u : Value) : Keep n₀ (fun k => k = g) A (A.setCell p u) :=
  ⟨(Below.refl _ A).setCell (by omega) u, fun i _ hx _ => Below.heap_setCell A p u i (by intro e; exact hx (by omega))⟩
theorem Blk.turn {s g : Nat} {t : TypeId} {cs : Array Value} {A B : World} (h : Blk A g t cs) (k : Turn s A B) (h1 : g ≠ s) (h2 : g ≠ s + 1) : Blk B g t cs := (k.block g h.lt h1 h2).trans h
theorem Blk.keep {n₀ g : Nat} {X : Nat → Prop} {t : TypeId} {cs : Array Value} {A B : World} (h : Blk A g t cs) (k : Keep n₀ X A B) (hx : ¬ X g) : Blk B g t cs := (k.c g h.lt hx ⟨_, _, _, h⟩).trans h

end Go.Proofs.YtkpengeaolcjhaaGreatDoor
/- core.Ask. -/
namespace Go.Proofs.YtkpengeaolcjhaaGreatDoor
open Go.RowKit Go.Shelf Go.Lib
set_option maxRecDepth 100000
set_option linter.unusedSimpArgs false

abbrev shown (j : Nat) (n : Int) : List Int := [0, 0, 0, 0, 0].set j n
/-- How many kinds are left when a layer shows a grade. -/
def numK (sp : List Span) (j : Nat) (n : Int) : Int := ((kindsOf (truthsL (sp.zip (shown j n)))).num : Nat)
def wst (f : Int → Int) (lo : Int) : Nat → Int
  | 0 => 0
  | k + 1 => max (wst f lo k) (f (lo + (k : Int)))
def layN (f : Nat → Int → Int) (sp : List Span) (j : Nat) : Int := match sp[j]? with | some x => wst (f j) x.lo (x.hi - x.lo + 1).toNat | none => 0
def askTo (f : Nat → Int → Int) (sp : List Span) (most : Int) : Nat → Int × Int
  | 0 => (0, most)
  | j + 1 => if layN f sp j < (askTo f sp most j).2 then ((j : Int), layN f sp j) else askTo f sp most j
def askS (b : Bale) : Int × Int := askTo (numK (spans b)) (spans b) 5 (spans b).length
def askB (b : Bale) : Int × Int := if askE b true 0 = 0 then askS b else (0, 0)
theorem numK_bd (sp : List Span) (j : Nat) (n : Int) : 0 ≤ numK sp j n ∧ numK sp j n ≤ 4 := by
  unfold numK; have := S4.num_le (kindsOf (truthsL (sp.zip (shown j n)))); omega
theorem wst_bd {f : Int → Int} (h : ∀ n, 0 ≤ f n ∧ f n ≤ 4) (lo : Int) : ∀ k, 0 ≤ wst f lo k ∧ wst f lo k ≤ 4
  | 0 => by simp [wst]
  | k + 1 => by have := wst_bd h lo k; have := h (lo + k); unfold wst; omega

end Go.Proofs.YtkpengeaolcjhaaGreatDoor
/- The reference's pinned and Ask. -/
namespace Go.Proofs.YtkpengeaolcjhaaGreatDoor
open Go.RowKit Go.Shelf Go.Lib
set_option maxRecDepth 100000
set_option linter.unusedSimpArgs false

theorem cell_set2 {W : World} {g p q : Nat} {u0 v : Value} (h0 : W.cell? ⟨g, p, none⟩ = some u0) : (W.setCell ⟨g, p, none⟩ v).cell? ⟨g, q, none⟩ = if p = q then some v else W.cell? ⟨g, q, none⟩ := by
  by_cases hpq : p = q
  · subst hpq; rw [if_pos rfl]; exact World.cell?_setCell_same (h := h0) ..
  · rw [if_neg hpq]; exact World.cell?_setCell_other (h := by intro e; injection e with _ e _; exact hpq e) ..
theorem Sl.put2 {W : World} {g o n c i : Nat} {l : List Span} {x : Span} (h : SlS W (.slice (some ⟨g, o, none⟩) n c) l) (hi : i < n) :
    SlS ((W.setCell ⟨g, o + i * 2, none⟩ (.int .i64 x.lo)).setCell ⟨g, o + i * 2 + 1, none⟩ (.int .i64 x.hi)) (.slice (some ⟨g, o, none⟩) n c) (l.set i x) := by
  obtain ⟨b, off, y, e1, hy, hb, hyc⟩ := h.at_ hi
  injection e1 with e1
  injection e1 with e1 e2
  subst e1 e2
  obtain ⟨c0, c1⟩ := SlS.cells hyc (Ext.refl _)
  obtain ⟨a', c', hv, hl, hc, hcell⟩ := h
  injection hv with e1 e2 e3
  subst e1 e2 e3
  refine ⟨_, _, by rw [List.length_set], by rw [List.length_set]; exact hl, hc, fun h0 => ?_⟩
  rw [List.length_set] at h0
  obtain ⟨b', off', hA, hb', hcell⟩ := hcell h0
  injection hA with hA
  injection hA with e1 e2
  subst e1 e2
  refine ⟨_, _, rfl, by simpa [World.setCell] using hb', fun k z hk j u hu => ?_⟩
  have c1' : (W.setCell ⟨g, o + i * 2, none⟩ (.int .i64 x.lo)).cell? ⟨g, o + i * 2 + 1, none⟩ = some (.int .i64 y.hi) := by rw [cell_set2 c0, if_neg (by omega)]; exact c1
  rw [cell_set2 c1', cell_set2 c0]
  have hj : j = 0 ∧ u = .int .i64 z.lo ∨ j = 1 ∧ u = .int .i64 z.hi := by
    match j, hu with
    | 0, hu => left; simp at hu; exact ⟨rfl, hu.symm⟩
    | 1, hu => right; simp at hu; exact ⟨rfl, hu.symm⟩
  rw [List.getElem?_set] at hk
  by_cases hik : i = k
  · subst hik
    simp only [if_true] at hk
    rw [if_pos (by omega)] at hk
    injection hk with hk
    subst hk
    rcases hj with ⟨rfl, rfl⟩ | ⟨rfl, rfl⟩
    · rw [if_neg (by omega), if_pos (by omega)]
    · rw [if_pos (by omega)]
  · rw [if_neg hik] at hk
    have := hcell k z hk j u hu
    rcases hj with ⟨rfl, rfl⟩ | ⟨rfl, rfl⟩
    · rw [if_neg (by omega), if_neg (by omega)]; exact this
    · rw [if_neg (by omega), if_neg (by omega)]; exact this

theorem own_succ2 {W : World} {base : Nat} {e : TypeId} {size : Nat} {v : Value} {k : Nat} {xs : List Value} (h : W.ownsRow base e size v (k + 1) xs) : ∃ g cap, v = .slice (some ⟨g, 0, none⟩) (k + 1) cap ∧ base ≤ g ∧ ∃ row, W.heap[g]? = some (.cells row e (0, 0)) := by
  rcases h.2 with ⟨_, h0⟩ | ⟨g, cap, row, rfl, hg, hh, _⟩
  · omega
  · exact ⟨g, cap, rfl, hg, row, hh⟩

theorem wpList_copyS {ops : Array Oper} {rest : List Oper} {o : Oper} {a : Act} {Q : Exit → Act → World → Prop} {W : World} (hgd : o.guard = none) (s x : Operand)
    (ho : o.op = .call { callee := .builtin .append, args := #[s, x], argTypes := #[164, 164] }) {base g : Nat} (hs : a.eval s = .slice (some ⟨g, 0, none⟩) 0 0) {v : Value} (hx : a.eval x = v)
    (hB : Blk W g 57 #[]) (hg : base ≤ g) (hW : base ≤ W.heap.size) {l : List Span} (hl : SlS W v l) (hlen : l.length ≤ 1000)
    (h : ∀ v' W', Own encS 57 2 W' base v' l → Ext W W' → wpList Tryz.prog ops Q rest (a.put o.dst v') W') : wpList Tryz.prog ops Q (o :: rest) a W := by
  obtain ⟨v', W', hr, h1, h2⟩ := run_copy (t := 164) (ty := o.type) (enc := encS) (sz := 2) Tryz.underlying164 info57x rfl (by decide) (by decide) (fun _ => rfl) hB hg hW hl hlen
  refine wpList_plain hgd fun K hK => ?_
  unfold Oper.wp execOp
  simp only [ho, resolve, invoke, builtin, Sem.run_bind, Sem.run_pure, Result.andThen_ok, List.map_toArray, List.map_cons, List.map_nil, hs, hx, hr]
  exact hK _ _ (h v' W' h1 h2)

def numR (sp : List Span) (j : Nat) (n : Int) : Int := ((rk S4.none (exts [] (zOf (sp.set j ⟨n, n⟩)))).num : Nat)
def raskB (b : Bale) : Int × Int := if askE b true 0 = 0 then askTo (numR (spans b)) (spans b) 9 (spans b).length else (0, 0)
theorem numR_bd (sp : List Span) (j : Nat) (n : Int) : 0 ≤ numR sp j n ∧ numR sp j n ≤ 4 := by
  unfold numR; have := S4.num_le (rk S4.none (exts [] (zOf (sp.set j ⟨n, n⟩)))); omega

end Go.Proofs.YtkpengeaolcjhaaGreatDoor
/- The plain law: Ask. -/
namespace Go.Proofs.YtkpengeaolcjhaaGreatDoor
open Go.RowKit Go.Shelf
set_option linter.unusedSimpArgs false

def truthsG : List (List Int) → List (List Int)
  | [] => [[]]
  | g :: r => g.flatMap fun n => (truthsG r).map (n :: ·)
theorem truthsL_G (z : List (Span × Int)) : truthsL z = truthsG (z.map fun y => gradesOf y.1 y.2) := by
  induction z with
  | nil => rfl
  | cons y z ih => rw [List.map_cons]; unfold truthsL truthsG; rw [ih]
theorem gTo_one {s : Span} {n : Int} (h1 : s.lo ≤ n) (hn : n ≠ 0) : ∀ k : Nat, gTo s n k = if n < s.lo + (k : Int) then [n] else []
  | 0 => by unfold gTo; simp; omega
  | k + 1 => by
    rw [gTo_succ, gTo_one h1 hn k]
    have h0 : (n == 0) = false := by simpa using hn
    rw [h0, Bool.false_or]
    by_cases he : n = s.lo + (k : Int)
    · rw [if_neg (by omega), if_pos (by simpa using he), if_pos (by omega), List.nil_append, ← he]
    · rw [if_neg (show ¬ ((n == s.lo + (k : Int)) = true) by simpa using he)]
      by_cases hl : n < s.lo + (k : Int)
      · rw [if_pos hl, if_pos (by omega)]; simp
      · rw [if_neg hl, if_neg (by omega)]; simp
theorem grades_pick {s : Span} {n : Int} (h1 : s.lo ≤ n) (h2 : n ≤ s.hi) (hn : n ≠ 0) : gradesOf s n = [n] := by
  unfold gradesOf; rw [gTo_one h1 hn, if_pos (by omega)]
theorem grades_pin (n : Int) : gradesOf ⟨n, n⟩ 0 = [n] := by
  unfold gradesOf gTo
  simp
theorem zeros_at (k : Nat) (h : k < 5) : ([0, 0, 0, 0, 0] : List Int)[k]? = some 0 := by
  obtain rfl | rfl | rfl | rfl | rfl : k = 0 ∨ k = 1 ∨ k = 2 ∨ k = 3 ∨ k = 4 := by omega
  all_goals rfl
theorem shown_at (j k : Nat) (n : Int) (h : k < 5) : (shown j n)[k]? = some (if j = k then n else 0) := by
  unfold shown
  rw [List.getElem?_set]
  by_cases hjk : j = k
  · subst hjk; simp [h]
  · rw [if_neg hjk, if_neg hjk, zeros_at k h]
theorem pin_eq {sp : List Span} (h5 : sp.length ≤ 5) {j : Nat} {x : Span} (hx : sp[j]? = some x) {n : Int} (h1 : x.lo ≤ n) (h2 : n ≤ x.hi) (hn : n ≠ 0) :
    truthsL ((sp.set j ⟨n, n⟩).zip [0, 0, 0, 0, 0]) = truthsL (sp.zip (shown j n)) := by
  rw [truthsL_G, truthsL_G]
  congr 1
  apply List.ext_getElem?
  intro k
  rw [List.getElem?_map, List.getElem?_map]
  by_cases hk : k < sp.length
  · obtain ⟨y, hy⟩ : ∃ y, sp[k]? = some y := ⟨_, List.getElem?_eq_getElem hk⟩
    have hz := zeros_at k (by omega)
    have hs := shown_at j k n (by omega)
    have e2 : (sp.zip (shown j n))[k]? = some (y, if j = k then n else 0) := by rw [List.getElem?_zip_eq_some]; exact ⟨hy, hs⟩
    rw [e2]
    by_cases hjk : j = k
    · subst hjk
      obtain rfl : y = x := by rw [hx] at hy; injection hy with h; exact h.symm
      have e1 : ((sp.set j ⟨n, n⟩).zip ([0, 0, 0, 0, 0] : List Int))[j]? = some (⟨n, n⟩, 0) := by
        rw [List.getElem?_zip_eq_some]
        refine ⟨?_, hz⟩
        rw [List.getElem?_set, if_pos rfl, if_pos hk]
      rw [e1]
      simp only [Option.map_some, if_true]
      rw [grades_pin, grades_pick h1 h2 hn]
    · have e1 : ((sp.set j ⟨n, n⟩).zip ([0, 0, 0, 0, 0] : List Int))[k]? = some (y, 0) := by
        rw [List.getElem?_zip_eq_some]
        refine ⟨?_, hz⟩
        rw [List.getElem?_set, if_neg hjk]; exact hy
      rw [e1, if_neg hjk]
  · have e1 : ((sp.set j ⟨n, n⟩).zip ([0, 0, 0, 0, 0] : List Int))[k]? = none := List.getElem?_eq_none (by rw [List.length_zip, List.length_set]; omega)
    have e2 : (sp.zip (shown j n))[k]? = none := List.getElem?_eq_none (by rw [List.length_zip]; omega)
    rw [e1, e2]
theorem num_eq {sp : List Span} (h5 : sp.length ≤ 5) (h0 : 0 < sp.length) (hb : ∀ x ∈ sp, 1 ≤ x.lo ∧ x.hi ≤ 9) {j : Nat} {x : Span} (hx : sp[j]? = some x) {n : Int} (h1 : x.lo ≤ n) (h2 : n ≤ x.hi) : numR sp j n = numK sp j n := by
  have hxb := hb x (List.mem_of_getElem? hx)
  unfold numR numK
  rw [rk_eq (by rw [List.length_set]; exact h5) (by rw [List.length_set]; exact h0) (fun y hy => by
    rcases List.mem_or_eq_of_mem_set hy with hy | rfl
    · exact hb y hy
    · dsimp only; omega), pin_eq h5 hx h1 h2 (by omega)]
theorem wst_eq {f g : Int → Int} {lo : Int} : ∀ k : Nat, (∀ i : Nat, i < k → f (lo + (i : Int)) = g (lo + (i : Int))) → wst f lo k = wst g lo k
  | 0, _ => rfl
  | k + 1, h => by unfold wst; rw [wst_eq k (fun i hi => h i (by omega)), h k (by omega)]
theorem layN_eq {sp : List Span} (h5 : sp.length ≤ 5) (h0 : 0 < sp.length) (hb : ∀ x ∈ sp, 1 ≤ x.lo ∧ x.hi ≤ 9) (j : Nat) : layN (numR sp) sp j = layN (numK sp) sp j := by
  unfold layN
  cases hx : sp[j]? with
  | none => rfl
  | some x => exact wst_eq _ fun i hi => num_eq h5 h0 hb hx (by omega) (by omega)
theorem layN_bd (sp : List Span) (j : Nat) : layN (numK sp) sp j ≤ 4 := by
  unfold layN
  split
  · exact (wst_bd (numK_bd sp j) _ _).2
  · omega
theorem ask_eq (b : Bale) : raskB b = askB b := by
  unfold raskB askB
  split
  · rename_i hz
    obtain ⟨h1, h3⟩ : valid b = true ∧ okB b = true := by
      unfold askE at hz
      split at hz
      · simp at hz; exact ⟨by assumption, hz⟩
      · cases hz
    have hB := valid_bds h1
    have hl := spans_len b
    have h5 : (spans b).length ≤ 5 := by have := hB.l5; omega
    have h0 : 0 < (spans b).length := by have := hB.l1; omega
    have hb : ∀ x ∈ spans b, 1 ≤ x.lo ∧ x.hi ≤ 9 := fun x hx => by have := spans_bd h1 x hx; omega
    unfold askS
    generalize spans b = sp at *
    have key : ∀ j, askTo (numR sp) sp 9 (j + 1) = askTo (numK sp) sp 5 (j + 1) := by
      intro j
      induction j with
      | zero =>
        unfold askTo
        rw [layN_eq h5 h0 hb]
        have := layN_bd sp 0
        rw [if_pos (by unfold askTo; dsimp only; omega), if_pos (by unfold askTo; dsimp only; omega)]
      | succ j ih =>
        rw [askTo, askTo.eq_2 (numK sp), ih, layN_eq h5 h0 hb]
    obtain ⟨m, hm⟩ : ∃ m, sp.length = m + 1 := ⟨sp.length - 1, by omega⟩
    rw [hm]; exact key m
  · rfl
end Go.Proofs.YtkpengeaolcjhaaGreatDoor
/- The plain law: Decide. -/
namespace Go.Proofs.YtkpengeaolcjhaaGreatDoor
open Go.RowKit Go.Shelf
set_option linter.unusedSimpArgs false

/-- What a truth shows at some layers. -/
def restr (l : List Int) (t : List Int) : List Int := l.foldl (fun s i => s.set i.toNat (t[i.toNat]?.getD 0)) [0, 0, 0, 0, 0]
theorem restr_fold (t : List Int) (j : Nat) : ∀ (l s : List Int), (∀ i ∈ l, 0 ≤ i) → j < s.length →
    (l.foldl (fun s i => s.set i.toNat (t[i.toNat]?.getD 0)) s)[j]? = if (j : Int) ∈ l then some (t[j]?.getD 0) else s[j]?
  | [], s, _, _ => by simp
  | i :: l, s, h, hj => by
    rw [List.foldl_cons, restr_fold t j l _ (fun k hk => h k (List.mem_cons_of_mem _ hk)) (by rw [List.length_set]; exact hj)]
    have hi := h i (List.mem_cons_self ..)
    by_cases hm : (j : Int) ∈ l
    · rw [if_pos hm, if_pos (List.mem_cons_of_mem _ hm)]
    · rw [if_neg hm]
      by_cases hij : i = (j : Int)
      · subst hij
        rw [if_pos (List.mem_cons_self ..), List.getElem?_set]
        simp [hj]
      · rw [if_neg (by simp [hm, Ne.symm hij]), List.getElem?_set, if_neg (by omega)]
theorem restr_len (l t : List Int) : (restr l t).length = 5 := by
  unfold restr
  have : ∀ (l s : List Int), s.length = 5 → (l.foldl (fun s i => s.set i.toNat (t[i.toNat]?.getD 0)) s).length = 5 := by
    intro l
    induction l with
    | nil => intro s h; exact h
    | cons i l ih => intro s h; rw [List.foldl_cons]; exact ih _ (by rw [List.length_set]; exact h)
  exact this l _ rfl
theorem restr_at {l : List Int} (h : ∀ i ∈ l, 0 ≤ i) (t : List Int) {j : Nat} (hj : j < 5) : (restr l t)[j]? = some (if (j : Int) ∈ l then t[j]?.getD 0 else 0) := by
  unfold restr
  rw [restr_fold t j l _ h (by simpa using hj), zeros_at j hj]
  split <;> rfl
theorem restr_iff {l : List Int} (h : ∀ i ∈ l, 0 ≤ i ∧ i < 5) (t u : List Int) : restr l t = restr l u ↔ ∀ i ∈ l, t[i.toNat]?.getD 0 = u[i.toNat]?.getD 0 := by
  have h0 : ∀ i ∈ l, 0 ≤ i := fun i hi => (h i hi).1
  constructor
  · intro e i hi
    have hb := h i hi
    have e1 := restr_at h0 t (j := i.toNat) (by omega)
    have e2 := restr_at h0 u (j := i.toNat) (by omega)
    have hm : ((i.toNat : Nat) : Int) ∈ l := by rw [show ((i.toNat : Nat) : Int) = i by omega]; exact hi
    rw [if_pos hm] at e1 e2
    rw [e, e2] at e1
    injection e1 with e1
    exact e1.symm
  · intro e
    apply List.ext_getElem?
    intro j
    by_cases hj : j < 5
    · rw [restr_at h0 t hj, restr_at h0 u hj]
      by_cases hm : (j : Int) ∈ l
      · rw [if_pos hm, if_pos hm]
        have := e _ hm
        simp only [Int.toNat_natCast] at this
        rw [this]
      · rw [if_neg hm, if_neg hm]
    · rw [List.getElem?_eq_none (by rw [restr_len]; omega), List.getElem?_eq_none (by rw [restr_len]; omega)]

/-- Truths that look alike at some layers are of one kind. -/
def consB (l : List Int) (T : List (List Int)) : Bool := decide (∀ t ∈ T, ∀ u ∈ T, restr l t = restr l u → kindL t = kindL u)
theorem consB_iff (l : List Int) (T : List (List Int)) : consB l T = true ↔ ∀ t ∈ T, ∀ u ∈ T, restr l t = restr l u → kindL t = kindL u := by unfold consB; simp

theorem kindsOf_iff (T : List (List Int)) : ((kindsOf T).a = true ↔ ∃ t ∈ T, kindL t = 1) ∧ ((kindsOf T).b = true ↔ ∃ t ∈ T, kindL t = 2) ∧ ((kindsOf T).c = true ↔ ∃ t ∈ T, kindL t = 3) ∧ ((kindsOf T).d = true ↔ ∃ t ∈ T, kindL t = 4) := by
  have key : ∀ (T : List (List Int)) (s : S4), ((T.foldl (fun s l => s.add (kindL l)) s).a = true ↔ s.a = true ∨ ∃ t ∈ T, kindL t = 1) ∧ ((T.foldl (fun s l => s.add (kindL l)) s).b = true ↔ s.b = true ∨ ∃ t ∈ T, kindL t = 2) ∧
      ((T.foldl (fun s l => s.add (kindL l)) s).c = true ↔ s.c = true ∨ ∃ t ∈ T, kindL t = 3) ∧ ((T.foldl (fun s l => s.add (kindL l)) s).d = true ↔ s.d = true ∨ ∃ t ∈ T, kindL t = 4) := by
    intro T
    induction T with
    | nil => intro s; simp
    | cons t T ih =>
      intro s
      rw [List.foldl_cons]
      obtain ⟨h1, h2, h3, h4⟩ := ih (s.add (kindL t))
      rw [h1, h2, h3, h4]
      simp only [S4.add, Bool.or_eq_true, decide_eq_true_eq, List.mem_cons, exists_eq_or_imp, or_assoc, and_self]
  have := key T S4.none
  simpa [kindsOf, S4.none] using this

theorem num_one {T : List (List Int)} (h0 : T ≠ []) : ((kindsOf T).num == 1) = consB [] T := by
  obtain ⟨h1, h2, h3, h4⟩ := kindsOf_iff T
  obtain ⟨t0, ht0⟩ := List.exists_mem_of_ne_nil T h0
  rw [Bool.eq_iff_iff, consB_iff]
  simp only [beq_iff_eq]
  have hr : ∀ t u, (restr [] t = restr [] u → kindL t = kindL u) ↔ kindL t = kindL u := fun t u => by simp [restr]
  simp only [hr]
  generalize kindsOf T = s at *
  obtain ⟨a, b, c, d⟩ := s
  simp only at h1 h2 h3 h4
  constructor
  · intro hn t ht u hu
    have kt := kindL_bd t
    have ku := kindL_bd u
    have ft : ∀ v ∈ T, (kindL v = 1 → a = true) ∧ (kindL v = 2 → b = true) ∧ (kindL v = 3 → c = true) ∧ (kindL v = 4 → d = true) := fun v hv =>
      ⟨fun e => h1.2 ⟨v, hv, e⟩, fun e => h2.2 ⟨v, hv, e⟩, fun e => h3.2 ⟨v, hv, e⟩, fun e => h4.2 ⟨v, hv, e⟩⟩
    obtain ⟨t1, t2, t3, t4⟩ := ft t ht
    obtain ⟨u1, u2, u3, u4⟩ := ft u hu
    rcases four kt.1 kt.2 with e | e | e | e <;> rcases four ku.1 ku.2 with e' | e' | e' | e' <;> first
      | (rw [e, e']; done)
      | (exfalso; cases a <;> cases b <;> cases c <;> cases d <;> simp [S4.num] at hn <;> simp_all)
  · intro hall
    have k0 := kindL_bd t0
    have one : ∀ v ∈ T, kindL v = kindL t0 := fun v hv => hall v hv t0 ht0
    have ha : a = decide (kindL t0 = 1) := by
      rw [Bool.eq_iff_iff, h1]; simp; exact ⟨fun ⟨v, hv, e⟩ => by rw [← one v hv]; exact e, fun e => ⟨t0, ht0, e⟩⟩
    have hb : b = decide (kindL t0 = 2) := by
      rw [Bool.eq_iff_iff, h2]; simp; exact ⟨fun ⟨v, hv, e⟩ => by rw [← one v hv]; exact e, fun e => ⟨t0, ht0, e⟩⟩
    have hc : c = decide (kindL t0 = 3) := by
      rw [Bool.eq_iff_iff, h3]; simp; exact ⟨fun ⟨v, hv, e⟩ => by rw [← one v hv]; exact e, fun e => ⟨t0, ht0, e⟩⟩
    have hd : d = decide (kindL t0 = 4) := by
      rw [Bool.eq_iff_iff, h4]; simp; exact ⟨fun ⟨v, hv, e⟩ => by rw [← one v hv]; exact e, fun e => ⟨t0, ht0, e⟩⟩
    subst ha hb hc hd
    rcases four k0.1 k0.2 with e | e | e | e <;> rw [e] <;> decide

theorem gTo_mem (s : Span) (n : Int) : ∀ k : Nat, n ∈ gTo s 0 k ↔ s.lo ≤ n ∧ n < s.lo + (k : Int)
  | 0 => by unfold gTo; simp
  | k + 1 => by
    rw [gTo_succ, if_pos (by simp), List.mem_append, gTo_mem s n k, List.mem_singleton]
    omega
theorem grades_mem (s : Span) (n : Int) : n ∈ gradesOf s 0 ↔ s.lo ≤ n ∧ n ≤ s.hi := by
  unfold gradesOf
  rw [gTo_mem]
  omega
theorem truthsG_mem : ∀ (G : List (List Int)) (t : List Int), t ∈ truthsG G ↔ t.length = G.length ∧ ∀ (i : Nat) g, G[i]? = some g → ∃ n ∈ g, t[i]? = some n
  | [], t => by
    simp [truthsG]
  | g :: G, t => by
    unfold truthsG
    simp only [List.mem_flatMap, List.mem_map]
    constructor
    · rintro ⟨n, hn, u, hu, rfl⟩
      obtain ⟨h1, h2⟩ := (truthsG_mem G u).1 hu
      refine ⟨by simp [h1], fun i g' hi => ?_⟩
      cases i with
      | zero => simp at hi; subst hi; exact ⟨n, hn, by simp⟩
      | succ i => simp at hi; simpa using h2 i g' hi
    · rintro ⟨h1, h2⟩
      obtain ⟨n, hn, h3⟩ := h2 0 g rfl
      match t, h1 with
      | m :: u, h1 =>
        simp at h3
        subst h3
        refine ⟨m, hn, u, (truthsG_mem G u).2 ⟨by simpa using h1, fun i g' hi => ?_⟩, rfl⟩
        simpa using h2 (i + 1) g' (by simpa using hi)
theorem truths_mem {sp : List Span} (h5 : sp.length ≤ 5) (t : List Int) : t ∈ truthsL (sp.zip [0, 0, 0, 0, 0]) ↔ t.length = sp.length ∧ ∀ (i : Nat) x, sp[i]? = some x → ∃ n, (x.lo ≤ n ∧ n ≤ x.hi) ∧ t[i]? = some n := by
  rw [truthsL_G, truthsG_mem, List.length_map, List.length_zip]
  have hmin : min sp.length ([0, 0, 0, 0, 0] : List Int).length = sp.length := by simp; omega
  rw [hmin]
  refine and_congr_right fun hl => ?_
  constructor
  · intro h i x hx
    have hi : i < sp.length := (List.getElem?_eq_some_iff.1 hx).1
    have e : (sp.zip ([0, 0, 0, 0, 0] : List Int))[i]? = some (x, 0) := by rw [List.getElem?_zip_eq_some]; exact ⟨hx, zeros_at i (by omega)⟩
    obtain ⟨n, hn, hn2⟩ := h i (gradesOf x 0) (by rw [List.getElem?_map, e]; rfl)
    exact ⟨n, (grades_mem x n).1 hn, hn2⟩
  · intro h i g hg
    rw [List.getElem?_map] at hg
    cases e : (sp.zip ([0, 0, 0, 0, 0] : List Int))[i]? with
    | none => rw [e] at hg; cases hg
    | some y =>
      rw [e] at hg
      obtain ⟨hx, hz⟩ := List.getElem?_zip_eq_some.1 e
      have hi : i < sp.length := (List.getElem?_eq_some_iff.1 hx).1
      rw [zeros_at i (by omega)] at hz
      injection hz with hz
      simp only [Option.map_some] at hg
      injection hg with hg
      obtain ⟨n, hn, hn2⟩ := h i y.1 hx
      refine ⟨n, ?_, hn2⟩
      rw [← hg, ← hz]
      exact (grades_mem y.1 n).2 hn
theorem truths_ne {sp : List Span} (h5 : sp.length ≤ 5) (hb : ∀ x ∈ sp, x.lo ≤ x.hi) : truthsL (sp.zip [0, 0, 0, 0, 0]) ≠ [] := by
  have : sp.map (·.lo) ∈ truthsL (sp.zip [0, 0, 0, 0, 0]) := (truths_mem h5 _).2 ⟨by simp, fun i x hx => ⟨x.lo, ⟨by omega, hb x (List.mem_of_getElem? hx)⟩, by rw [List.getElem?_map, hx]; rfl⟩⟩
  intro e
  rw [e] at this
  cases this

/-- All numbers of a span. -/
def rangeS (x : Span) : List Int := (List.range (x.hi - x.lo + 1).toNat).map fun (q : Nat) => x.lo + (q : Int)
theorem rangeS_mem (x : Span) (n : Int) : n ∈ rangeS x ↔ x.lo ≤ n ∧ n ≤ x.hi := by
  unfold rangeS
  simp only [List.mem_map, List.mem_range]
  constructor
  · rintro ⟨q, hq, rfl⟩; omega
  · intro h; exact ⟨(n - x.lo).toNat, by omega, by omega⟩
/-- As the reference decides. -/
def decR (sp : List Span) : List Int → Bool
  | [] => (rk S4.none (exts [] (zOf sp))).num == 1
  | i :: l => match sp[i.toNat]? with
    | some x => (rangeS x).all fun n => decR (sp.set i.toNat ⟨n, n⟩) l
    | none => true

theorem set_mem {sp : List Span} (h5 : sp.length ≤ 5) {i : Nat} {x : Span} (hx : sp[i]? = some x) {n : Int} (hn : x.lo ≤ n ∧ n ≤ x.hi) (t : List Int) :
    t ∈ truthsL ((sp.set i ⟨n, n⟩).zip [0, 0, 0, 0, 0]) ↔ t ∈ truthsL (sp.zip [0, 0, 0, 0, 0]) ∧ t[i]? = some n := by
  have hi : i < sp.length := (List.getElem?_eq_some_iff.1 hx).1
  rw [truths_mem (by rw [List.length_set]; exact h5), truths_mem h5, List.length_set]
  constructor
  · rintro ⟨h1, h2⟩
    obtain ⟨m, hm, hm2⟩ := h2 i ⟨n, n⟩ (by rw [List.getElem?_set, if_pos rfl, if_pos hi])
    dsimp only at hm
    obtain rfl : m = n := by omega
    refine ⟨⟨h1, fun k y hy => ?_⟩, hm2⟩
    by_cases hk : i = k
    · subst hk
      rw [hx] at hy
      injection hy with hy
      subst hy
      exact ⟨_, hn, hm2⟩
    · exact h2 k y (by rw [List.getElem?_set, if_neg hk]; exact hy)
  · rintro ⟨⟨h1, h2⟩, h3⟩
    refine ⟨h1, fun k y hy => ?_⟩
    rw [List.getElem?_set] at hy
    by_cases hk : i = k
    · subst hk
      rw [if_pos rfl, if_pos hi] at hy
      injection hy with hy
      subst hy
      exact ⟨n, ⟨Int.le_refl _, Int.le_refl _⟩, h3⟩
    · rw [if_neg hk] at hy
      exact h2 k y hy

theorem decR_eq : ∀ (l : List Int) (sp : List Span), sp.length ≤ 5 → 0 < sp.length → (∀ x ∈ sp, 1 ≤ x.lo ∧ x.lo ≤ x.hi ∧ x.hi ≤ 9) → (∀ i ∈ l, 0 ≤ i ∧ i < (sp.length : Int)) →
    decR sp l = consB l (truthsL (sp.zip [0, 0, 0, 0, 0]))
  | [], sp, h5, h0, hb, _ => by
    unfold decR
    rw [rk_eq h5 h0 (fun x hx => by have := hb x hx; omega)]
    exact num_one (truths_ne h5 fun x hx => (hb x hx).2.1)
  | i :: l, sp, h5, h0, hb, hl => by
    have hi := hl i (List.mem_cons_self ..)
    have hl' : ∀ k ∈ l, 0 ≤ k ∧ k < (sp.length : Int) := fun k hk => hl k (List.mem_cons_of_mem _ hk)
    have h5' : ∀ k ∈ l, 0 ≤ k ∧ k < 5 := fun k hk => by have := hl' k hk; omega
    have h5c : ∀ k ∈ i :: l, 0 ≤ k ∧ k < 5 := fun k hk => by have := hl k hk; omega
    obtain ⟨x, hx⟩ : ∃ x, sp[i.toNat]? = some x := ⟨_, List.getElem?_eq_getElem (by omega)⟩
    have hxb := hb x (List.mem_of_getElem? hx)
    unfold decR
    rw [hx]
    simp only
    rw [Bool.eq_iff_iff, List.all_eq_true, consB_iff]
    have ih : ∀ n ∈ rangeS x, decR (sp.set i.toNat ⟨n, n⟩) l = consB l (truthsL ((sp.set i.toNat ⟨n, n⟩).zip [0, 0, 0, 0, 0])) := fun n hn => by
      have hn := (rangeS_mem x n).1 hn
      exact decR_eq l _ (by rw [List.length_set]; exact h5) (by rw [List.length_set]; exact h0) (fun y hy => by
        rcases List.mem_or_eq_of_mem_set hy with hy | rfl
        · exact hb y hy
        · dsimp only; omega) (by rw [List.length_set]; exact hl')
    constructor
    · intro h t ht u hu e
      have e2 := (restr_iff h5c t u).1 e
      obtain ⟨_, h2⟩ := (truths_mem h5 t).1 ht
      obtain ⟨_, h3⟩ := (truths_mem h5 u).1 hu
      obtain ⟨n, hn, htn⟩ := h2 _ x hx
      obtain ⟨m, hm, hum⟩ := h3 _ x hx
      have e3 := e2 i (List.mem_cons_self ..)
      rw [htn, hum] at e3
      simp at e3
      subst e3
      have hd := h n ((rangeS_mem x n).2 hn)
      rw [ih n ((rangeS_mem x n).2 hn), consB_iff] at hd
      exact hd t ((set_mem h5 hx hn t).2 ⟨ht, htn⟩) u ((set_mem h5 hx hn u).2 ⟨hu, hum⟩) ((restr_iff h5' t u).2 fun k hk => e2 k (List.mem_cons_of_mem _ hk))
    · intro h n hn
      rw [ih n hn, consB_iff]
      have hn := (rangeS_mem x n).1 hn
      intro t ht u hu e
      obtain ⟨ht1, ht2⟩ := (set_mem h5 hx hn t).1 ht
      obtain ⟨hu1, hu2⟩ := (set_mem h5 hx hn u).1 hu
      refine h t ht1 u hu1 ((restr_iff h5c t u).2 fun k hk => ?_)
      rcases List.mem_cons.1 hk with rfl | hk
      · rw [ht2, hu2]
      · exact (restr_iff h5' t u).1 e k hk

/-! lists of numbers -/
def combos : Nat → List Int → List (List Int)
  | 0, _ => [[]]
  | _ + 1, [] => []
  | n + 1, x :: r => (combos n r).map (x :: ·) ++ combos (n + 1) r
def listsL (all : List Int) (most : Nat) : List (List Int) := (List.range (min most all.length + 1)).flatMap fun n => combos n all
def ints (n : Nat) : List Int := (List.range n).map fun (i : Nat) => (i : Int)
def setOf (n s : Nat) : List Int := ((List.range n).filter fun i => s / 2 ^ i % 2 == 1).map fun (i : Nat) => (i : Int)
def setsL (n : Nat) : List (List Int) := (List.range (2 ^ n)).map (setOf n)
def lexL : List Int → List Int → Bool
  | x :: a, y :: b => if x ≠ y then decide (x < y) else lexL a b
  | _, _ => false
def beforeL (a b : List Int) : Bool := if a.length ≠ b.length then decide (a.length < b.length) else lexL a b
theorem lex_trans : ∀ {a b c : List Int}, lexL a b = true → lexL b c = true → lexL a c = true
  | x :: a, y :: b, z :: c, h1, h2 => by
    unfold lexL at h1 h2 ⊢
    by_cases hxy : x = y
    · subst hxy
      simp only [ne_eq, not_true, if_false] at h1
      by_cases hxz : x = z
      · subst hxz
        simp only [ne_eq, not_true, if_false] at h2 ⊢
        exact lex_trans h1 h2
      · simp only [ne_eq, hxz, not_false_eq_true, if_true] at h2 ⊢
        exact h2
    · simp only [ne_eq, hxy, not_false_eq_true, if_true, decide_eq_true_eq] at h1
      by_cases hyz : y = z
      · subst hyz
        simp only [ne_eq, hxy, not_false_eq_true, if_true, decide_eq_true_eq]
        exact h1
      · simp only [ne_eq, hyz, not_false_eq_true, if_true, decide_eq_true_eq] at h2
        rw [if_pos (by omega)]
        simp only [decide_eq_true_eq]
        omega
  | [], _, _, h1, _ => by simp [lexL] at h1
  | _ :: _, [], _, h1, _ => by simp [lexL] at h1
  | _ :: _, _ :: _, [], _, h2 => by simp [lexL] at h2
theorem before_trans {a b c : List Int} (h1 : beforeL a b = true) (h2 : beforeL b c = true) : beforeL a c = true := by
  unfold beforeL at *
  split at h1
  · simp only [decide_eq_true_eq] at h1
    split at h2
    · simp only [decide_eq_true_eq] at h2
      rw [if_pos (by omega)]; simp; omega
    · rw [if_pos (by omega)]; simp; omega
  · split at h2
    · simp only [decide_eq_true_eq] at h2
      rw [if_pos (by omega)]; simp; omega
    · rw [if_neg (by omega)]; exact lex_trans h1 h2
def pickStep (f : List Int → Bool) (s : List Int × Bool) (l : List Int) : List Int × Bool := if (!s.2 || beforeL l s.1) && f l then (l, true) else s
def pickL (f : List Int → Bool) (L : List (List Int)) : List Int × Bool := L.foldl (pickStep f) ([], false)
theorem pickL_snoc (f : List Int → Bool) (L : List (List Int)) (l : List Int) : pickL f (L ++ [l]) = pickStep f (pickL f L) l := by unfold pickL; rw [List.foldl_append]; rfl
theorem rev_ind {α : Type} {p : List α → Prop} (h0 : p []) (h : ∀ L x, p L → p (L ++ [x])) (L : List α) : p L := by
  have key : ∀ M : List α, p M.reverse := by
    intro M
    induction M with
    | nil => exact h0
    | cons x M ih => rw [List.reverse_cons]; exact h _ _ ih
  have := key L.reverse
  rwa [List.reverse_reverse] at this
theorem pick_spec (f : List Int → Bool) (irr : ∀ l, beforeL l l = false) (L : List (List Int)) : ((pickL f L).2 = true → (pickL f L).1 ∈ L ∧ f (pickL f L).1 = true ∧ ∀ l ∈ L, f l = true → beforeL l (pickL f L).1 = false) ∧ ((pickL f L).2 = false → ∀ l ∈ L, f l = false) := by
  refine rev_ind (p := fun L => ((pickL f L).2 = true → (pickL f L).1 ∈ L ∧ f (pickL f L).1 = true ∧ ∀ l ∈ L, f l = true → beforeL l (pickL f L).1 = false) ∧ ((pickL f L).2 = false → ∀ l ∈ L, f l = false)) (by simp [pickL]) (fun L l ih => ?_) L
  rw [pickL_snoc]
  generalize pickL f L = s at *
  obtain ⟨i1, i2⟩ := ih
  unfold pickStep
  by_cases hc : ((!s.2 || beforeL l s.1) && f l) = true
  · rw [if_pos hc]
    simp only [Bool.and_eq_true, Bool.or_eq_true, Bool.not_eq_true'] at hc
    refine ⟨fun _ => ⟨by simp, hc.2, fun x hx hfx => ?_⟩, fun h => by cases h⟩
    rcases List.mem_append.1 hx with hx | hx
    · rcases hc.1 with hs | hs
      · rw [i2 hs x hx] at hfx; cases hfx
      · cases hs2 : s.2 with
        | false => rw [i2 hs2 x hx] at hfx; cases hfx
        | true =>
          have := (i1 hs2).2.2 x hx hfx
          cases hb : beforeL x l with
          | false => rfl
          | true => rw [before_trans hb hs] at this; cases this
    · simp at hx; subst hx; exact irr _
  · rw [if_neg hc]
    refine ⟨fun h => ?_, fun h x hx => ?_⟩
    · obtain ⟨j1, j2, j3⟩ := i1 h
      refine ⟨List.mem_append_left _ j1, j2, fun x hx hfx => ?_⟩
      rcases List.mem_append.1 hx with hx | hx
      · exact j3 x hx hfx
      · simp at hx; subst hx
        rw [h] at hc
        simp only [hfx, Bool.not_true, Bool.false_or, Bool.and_true, Bool.not_eq_true] at hc
        exact hc
    · rcases List.mem_append.1 hx with hx | hx
      · exact i2 h x hx
      · simp at hx; subst hx
        rw [h] at hc
        simp only [Bool.not_false, Bool.true_or, Bool.true_and, Bool.not_eq_true] at hc
        exact hc
theorem lex_irr : ∀ l : List Int, lexL l l = false
  | [] => rfl
  | x :: l => by unfold lexL; simp; exact lex_irr l
theorem before_irr (l : List Int) : beforeL l l = false := by unfold beforeL; simp; exact lex_irr l
theorem pick_first {f : List Int → Bool} {L M : List (List Int)} (h1 : ∀ x ∈ L, x ∈ M) (h2 : ∀ x ∈ M, x ∈ L) (hs : M.Pairwise fun a b => beforeL a b = true) : (pickL f L).1 = (M.find? f).getD [] := by
  obtain ⟨p1, p2⟩ := pick_spec f before_irr L
  cases hr : (pickL f L).2 with
  | false =>
    have := p2 hr
    have hn : M.find? f = none := List.find?_eq_none.2 fun x hx => by rw [this x (h2 x hx)]; simp
    rw [hn]
    have key : ∀ L : List (List Int), (pickL f L).2 = false → (pickL f L).1 = [] := rev_ind (fun _ => rfl) fun L l ih => by
      rw [pickL_snoc]
      unfold pickStep
      split
      · intro h; cases h
      · exact ih
    exact key L hr
  | true =>
    obtain ⟨q1, q2, q3⟩ := p1 hr
    cases hf : M.find? f with
    | none => have := List.find?_eq_none.1 hf _ (h1 _ q1); rw [q2] at this; simp at this
    | some x =>
      obtain ⟨hx, m1, m2, rfl, has⟩ := List.find?_eq_some_iff_append.1 hf
      have hm := h1 _ q1
      rcases List.mem_append.1 hm with hm | hm
      · have := has _ hm; rw [q2] at this; simp at this
      · rcases List.mem_cons.1 hm with hm | hm
        · rw [hm]; rfl
        · have hp := (List.pairwise_cons.1 (List.pairwise_append.1 hs).2.1).1 _ hm
          rw [q3 x (h2 x (by simp)) hx] at hp
          cases hp
set_option maxRecDepth 100000 in
theorem sets_lists (n : Nat) (h0 : 0 < n) (h5 : n ≤ 5) : (∀ x ∈ setsL n, x ∈ listsL (ints n) n) ∧ (∀ x ∈ listsL (ints n) n, x ∈ setsL n) ∧ (listsL (ints n) n).Pairwise fun a b => beforeL a b = true := by
  obtain rfl | rfl | rfl | rfl | rfl : n = 1 ∨ n = 2 ∨ n = 3 ∨ n = 4 ∨ n = 5 := by omega
  all_goals decide +kernel
theorem combos_mem : ∀ {n : Nat} {all x : List Int}, x ∈ combos n all → ∀ i ∈ x, i ∈ all
  | 0, _, x, h, i, hi => by simp [combos] at h; subst h; cases hi
  | n + 1, [], x, h, i, hi => by simp [combos] at h
  | n + 1, y :: r, x, h, i, hi => by
    unfold combos at h
    rcases List.mem_append.1 h with h | h
    · obtain ⟨u, hu, rfl⟩ := List.mem_map.1 h
      rcases List.mem_cons.1 hi with rfl | hi
      · exact List.mem_cons_self ..
      · exact List.mem_cons_of_mem _ (combos_mem hu i hi)
    · exact List.mem_cons_of_mem _ (combos_mem h i hi)
theorem combos_len : ∀ {n : Nat} {all x : List Int}, x ∈ combos n all → x.length = n
  | 0, _, x, h => by simp [combos] at h; subst h; rfl
  | n + 1, [], x, h => by simp [combos] at h
  | n + 1, y :: r, x, h => by
    unfold combos at h
    rcases List.mem_append.1 h with h | h
    · obtain ⟨u, hu, rfl⟩ := List.mem_map.1 h
      simp [combos_len hu]
    · exact combos_len h
theorem lists_mem {all x : List Int} {most : Nat} (h : x ∈ listsL all most) : (∀ i ∈ x, i ∈ all) ∧ x.length ≤ most ∧ x.length ≤ all.length := by
  unfold listsL at h
  obtain ⟨n, hn, hx⟩ := List.mem_flatMap.1 h
  have := combos_len hx
  simp at hn
  exact ⟨combos_mem hx, by omega, by omega⟩
theorem ints_mem {n : Nat} {i : Int} (h : i ∈ ints n) : 0 ≤ i ∧ i < (n : Int) := by
  unfold ints at h
  simp only [List.mem_map, List.mem_range] at h
  obtain ⟨j, hj, rfl⟩ := h
  omega
theorem find_congr {α : Type} {f g : α → Bool} : ∀ {L : List α}, (∀ x ∈ L, f x = g x) → L.find? f = L.find? g
  | [], _ => rfl
  | x :: L, h => by
    rw [List.find?_cons, List.find?_cons, h x (List.mem_cons_self ..), find_congr fun y hy => h y (List.mem_cons_of_mem _ hy)]
/-- **Decide: the two answers are one.** -/
theorem decide_eq {sp : List Span} (h5 : sp.length ≤ 5) (h0 : 0 < sp.length) (hb : ∀ x ∈ sp, 1 ≤ x.lo ∧ x.lo ≤ x.hi ∧ x.hi ≤ 9) :
    (pickL (decR sp) (setsL sp.length)).1 = ((listsL (ints sp.length) sp.length).find? fun l => consB l (truthsL (sp.zip [0, 0, 0, 0, 0]))).getD [] := by
  obtain ⟨h1, h2, h3⟩ := sets_lists sp.length h0 h5
  rw [pick_first h1 h2 h3]
  congr 1
  refine find_congr fun l hl => ?_
  exact decR_eq l sp h5 h0 hb fun i hi => ints_mem ((lists_mem hl).1 i hi)
end Go.Proofs.YtkpengeaolcjhaaGreatDoor
/- core's lists: the lists of some numbers, shorter ones first; slices.Clone. -/
namespace Go.Proofs.YtkpengeaolcjhaaGreatDoor
open Go.RowKit Go.Shelf Go.Lib
set_option maxRecDepth 100000
set_option linter.unusedSimpArgs false

/-- A slice in new memory, without room if it is empty. -/
def NewI (base : Nat) (l : List Int) (v : Value) (W : World) : Prop := Own encI 3 1 W base v l ∧ ∃ A c, v = .slice A l.length c ∧ (l.length = 0 → c = 0)
theorem NewI.mono {base base' : Nat} {l : List Int} {v : Value} {W : World} (h : NewI base l v W) (hb : base' ≤ base) : NewI base' l v W := ⟨h.1.mono hb, h.2⟩
theorem NewI.ext {base : Nat} {l : List Int} {v : Value} {W W' : World} (h : NewI base l v W) (e : Ext W W') : NewI base l v W' := ⟨h.1.ext e, h.2⟩
theorem own_form {W : World} {base : Nat} {v : Value} {l : List Int} (h : Own encI 3 1 W base v l) : (v = .slice none 0 0 ∧ l = []) ∨ ∃ g cap cur, v = .slice (some ⟨g, 0, none⟩) l.length cap ∧ base ≤ g ∧ W.heap[g]? = some (.cells cur 3 (0, 0)) ∧ l.length ≤ cap ∧ cap ≤ maxLen ∧ cur.size = cap ∧ cur.toList.take l.length = l.flatMap encI := by
  rcases h.2 with ⟨h1, h2⟩ | ⟨g, cap, cur, h1, h2, h3, h4, h5, h6, h7⟩
  · exact .inl ⟨h1, List.eq_nil_of_length_eq_zero h2⟩
  · exact .inr ⟨g, cap, cur, h1, h2, h3, h4, h5, by omega, by rw [Nat.mul_one] at h7; exact h7⟩
theorem run_copyI {W : World} {base g : Nat} (hB : Blk W g 3 #[]) (hg : base ≤ g) (hW : base ≤ W.heap.size) {x : Value} {l : List Int} (hx : SlI W x l) (hl : l.length ≤ 1000) (ty : TypeId) :
    ∃ v' W', (Builtin.append_ #[36, 36] ty #[.slice (some ⟨g, 0, none⟩) 0 0, x]).run Tryz.prog W = .ok v' W' ∧ NewI base l v' W' ∧ Ext W W' := by
  by_cases h0 : l.length = 0
  · have : l = [] := List.eq_nil_of_length_eq_zero h0
    subst this
    obtain ⟨i0, hi, hz0, hz1, hz2⟩ := info_parts info3x
    obtain ⟨A, c, rfl, _, _, _⟩ := hx
    refine ⟨_, _, run_append_nothing W 36 36 ty 3 i0 Tryz.underlying36 hi _ 0 0 (Nat.le_refl _) _ ?_, ⟨Own.new hB hg, _, _, rfl, fun _ => rfl⟩, Ext.refl _⟩
    exact ⟨.inl ⟨3, Tryz.underlying36⟩, fun _ => by simp [Builtin.lenOf], by cases A <;> simp [Builtin.firstCells, loadCells, loadCellsFrom], by cases A <;> simp [Builtin.firstCells, loadCells, loadCellsFrom], by simp, by simp⟩
  · obtain ⟨v', W', hr, h1, h2⟩ := run_copy (t := 36) (ty := ty) (enc := encI) (sz := 1) Tryz.underlying36 info3x rfl (by decide) (by decide) (fun _ => rfl) hB hg hW hx hl
    obtain ⟨A, n, c, hv, hn, _, _⟩ := (Own.sl (enc := encI) (fun _ => rfl) h1 : SlI W' v' l).form
    exact ⟨v', W', hr, ⟨h1, A, c, by rw [hv, hn], fun h => absurd h h0⟩, h2⟩
theorem wpList_copyI {ops : Array Oper} {rest : List Oper} {o : Oper} {a : Act} {Q : Exit → Act → World → Prop} {W : World} (hgd : o.guard = none) (s x : Operand)
    (ho : o.op = .call { callee := .builtin .append, args := #[s, x], argTypes := #[36, 36] }) {base g : Nat} (hs : a.eval s = .slice (some ⟨g, 0, none⟩) 0 0) {v : Value} (hx : a.eval x = v)
    (hB : Blk W g 3 #[]) (hg : base ≤ g) (hW : base ≤ W.heap.size) {l : List Int} (hl : SlI W v l) (hlen : l.length ≤ 1000)
    (h : ∀ v' W', NewI base l v' W' → Ext W W' → wpList Tryz.prog ops Q rest (a.put o.dst v') W') : wpList Tryz.prog ops Q (o :: rest) a W := by
  obtain ⟨v', W', hr, h1, h2⟩ := run_copyI hB hg hW hl hlen o.type
  refine wpList_plain hgd fun K hK => ?_
  unfold Oper.wp execOp
  simp only [ho, resolve, invoke, builtin, Sem.run_bind, Sem.run_pure, Result.andThen_ok, List.map_toArray, List.map_cons, List.map_nil, hs, hx, hr]
  exact hK _ _ (h v' W' h1 h2)

@[go_sem] theorem eql36nil (w : World) (a : Option Addr) (n c : Nat) : (binOp .eql 36 (.slice a n c) (.slice none 0 0)).run Tryz.prog w = .ok (.bool a.isNone) w := Lib.run_eql_slice_nil w 36 3 a n c 0 0 Tryz.underlying36
theorem cloneI_any (v : Value) (l : List Int) (w : World) (hs : SlI w v l) (hlen : l.length ≤ 1000) :
    Calls Tryz.prog 110 #[v] w fun e w' => ∃ v', e = .returned v' ∧ NewI w.heap.size l v' w' ∧ Ext w w' := by
  have HS := Lib.hid hs
  have HL := Lib.hid hlen
  obtain ⟨A, n, c, rfl, hn, hlc, hcm⟩ := hs.form
  have HN := Lib.hid (show A.isNone = true → l = [] ∧ n = 0 from fun h => by
    obtain ⟨A', c', hv, _, _, hx⟩ := hs
    injection hv with e1 e2 e3
    subst e1 e3
    have hl0 : l = [] := by
      by_cases h0 : 0 < l.length
      · obtain ⟨_, _, h1, _⟩ := hx h0; rw [h1] at h; cases h
      · exact List.eq_nil_of_length_eq_zero (by omega)
    exact ⟨hl0, by rw [e2, hl0]; rfl⟩)
  clear hs hlen hn hlc hcm
  cases hN : A.isNone with
  | true =>
    obtain ⟨rfl, rfl⟩ := HN.out hN
    clear HS HL HN
    go_enter Tryz.func110, Tryz.ntmps110
    go_wp2
    go_ret
    exact ⟨_, rfl, ⟨Own.nil _ _, _, _, rfl, fun _ => rfl⟩, Ext.refl _⟩
  | false =>
    clear HN
    go_enter Tryz.func110, Tryz.ntmps110
    go_wp2_with (at_builtin; refine wpList_copyI rfl (.tmp 5) (.tmp 6) rfl (base := w.heap.size) (g := w.heap.size) rfl rfl (Blk.new _ _ _) (Nat.le_refl _) (by simp) (HS.out.ext (Ext.al _ _)) HL.out ?_)
    intro v1 w1 hown hext
    have HE := Lib.hid (show Ext w w1 from (Ext.al _ _).trans hext)
    go_wp2
    go_ret
    exact ⟨_, rfl, hown, HE.out⟩

/-- A slice of one fresh number, in a block of one cell. -/
def OneB (y : Int) (v : Value) (W : World) : Prop := ∃ b, v = .slice (some ⟨b, 0, none⟩) 1 1 ∧ Blk W b 3 #[.int .i64 y]
/-- What an append onto a clone keeps. -/
def RC (base : Nat) (l : List Int) (y : Int) (W W' : World) : Prop :=
  W.heap.size ≤ W'.heap.size ∧ (∀ v, Own encI 3 1 W base v l → Own encI 3 1 W' base v l) ∧ (∀ z, l ++ [y] <+: z → ∀ v, Own encI 3 1 W base v z → Own encI 3 1 W' base v z) ∧ (∀ b, Blk W b 3 #[.int .i64 y] → Blk W' b 3 #[.int .i64 y]) ∧ ∀ b, Blk W b 3 #[] → Blk W' b 3 #[]
theorem RC.refl {base : Nat} {l : List Int} {y : Int} (W : World) : RC base l y W W := ⟨Nat.le_refl _, fun _ h => h, fun _ _ _ h => h, fun _ h => h, fun _ h => h⟩
theorem RC.ext {base : Nat} {l : List Int} {y : Int} {W W' : World} (e : Ext W W') : RC base l y W W' := ⟨e.size, fun _ h => h.ext e, fun _ _ _ h => h.ext e, fun _ h => h.ext e, fun _ h => h.ext e⟩
theorem run_appc {W : World} {base : Nat} {v : Value} {l : List Int} {b c : Nat} {y : Int} (hv : NewI base l v W) (hb : base ≤ W.heap.size) (hl : l.length ≤ 1000) (hy : Blk W b 3 #[.int .i64 y]) (ty : TypeId) :
    ∃ v' W', (Builtin.append_ #[36, 36] ty #[v, .slice (some ⟨b, 0, none⟩) 1 c]).run Tryz.prog W = .ok v' W' ∧ Own encI 3 1 W' base v' (l ++ [y]) ∧ RC base l y W W' ∧ Below base W W' := by
  obtain ⟨i0, hi, hz0, hz1, hz2⟩ := info_parts info3x
  obtain ⟨hown, A, c0, hv0, hc0⟩ := hv
  have hnews : ∀ j u, (encI y)[j]? = some u → W.cell? ((⟨b, 0, none⟩ : Addr).add j) = some u := by
    intro j u hj
    cases j with
    | zero => simp at hj; subst hj; have := hy.cell 0; simpa [Addr.add] using this
    | succ j => simp at hj
  obtain ⟨v', W', hr, h1, h2, _⟩ := run_append_own (P := Tryz.prog) W base 36 ty 3 i0 (.int .i64 0) 1 8 Tryz.underlying36 hi hz0 hz1 hz2 rfl (by decide) v l.length (l.flatMap encI) hown ⟨b, 0, none⟩ 1 c (encI y) rfl hnews (by simp [Value.oneCell']) (by unfold maxLen; omega) (by omega) hb
  have h1' : Own encI 3 1 W' base v' (l ++ [y]) := by unfold Own; rw [List.length_append, List.flatMap_append]; simpa using h1
  refine ⟨v', W', hr, h1', ?_, (Below.refl base W).grown h2 hb (fun k hk => (World.ownsRow.lt hown k hk).1)⟩
  rcases own_form hown with ⟨rfl, rfl⟩ | ⟨g, cap, cur, rfl, hg, hgg, hlc, hcm, hcs, htake⟩
  · have hE : Ext W W' := ⟨h2.os, h2.tape, h2.output, h2.size, fun i hi => h2.block i hi (by simp [Value.ownBlock])⟩
    exact RC.ext hE
  · by_cases hroom : l.length + 1 ≤ cap
    · have hl0 : l.length ≠ 0 := fun h => by
        injection hv0 with _ _ e3
        have := hc0 h
        omega
      have hfit : l.length * i0.size + (encI y).length ≤ cur.size := by rw [hz1, hcs]; simp; omega
      have hr2 := run_append_room (P := Tryz.prog) W 36 ty 3 i0 Tryz.underlying36 hi g l.length cap cur hgg ⟨b, 0, none⟩ 1 c (encI y) (by rw [hz1]; rfl) hnews (by simp [Value.oneCell']) hroom hfit
      rw [hr] at hr2
      injection hr2 with hv' hW'
      rw [hz1, Nat.mul_one, htake] at hW'
      have hfl : (l.flatMap encI).length = l.length := by rw [enc_len (enc := encI) (sz := 1) (fun _ => rfl), Nat.mul_one]
      have hgW : W'.heap[g]? = some (.cells (l.flatMap encI ++ encI y ++ cur.toList.drop (l.length + 1)).toArray 3 (0, 0)) := by
        rw [hW']; exact setRow_heap W g cur _ 3 _ hgg
      have hsz' : (l.flatMap encI ++ encI y ++ cur.toList.drop (l.length + 1)).toArray.size = cap := by
        simp only [List.size_toArray, List.length_append, hfl, List.length_drop, Array.length_toList, hcs]
        simp; omega
      have hoth : ∀ k, k ≠ g → W'.heap[k]? = W.heap[k]? := fun k hk => by rw [hW']; exact setRow_other W g k _ hk
      refine ⟨h2.size, fun v2 ho => ?_, fun z hz v2 ho => ?_, fun b2 hB => ?_, fun b2 hB => ?_⟩
      · rcases own_form ho with ⟨rfl, hn⟩ | ⟨g2, cap2, cur2, rfl, hg2, hgg2, hlc2, hcm2, hcs2, ht2⟩
        · exact absurd (by rw [hn]; rfl) hl0
        · refine ⟨by rw [enc_len (enc := encI) (sz := 1) (fun _ => rfl)], .inr ?_⟩
          by_cases he : g2 = g
          · subst he
            rw [hgg] at hgg2
            injection hgg2 with hgg2
            injection hgg2 with e1 _ _
            subst e1
            refine ⟨g2, cap2, _, rfl, hg2, hgW, hlc2, hcm2, by rw [hsz']; omega, ?_⟩
            rw [Nat.mul_one, List.append_assoc]
            have : (l.flatMap encI ++ (encI y ++ cur.toList.drop (l.length + 1))).toArray.toList.take l.length = l.flatMap encI := by
              show List.take _ (l.flatMap encI ++ (encI y ++ cur.toList.drop (l.length + 1))) = _
              rw [List.take_append_of_le_length (by omega), List.take_of_length_le (by omega)]
            exact this
          · exact ⟨g2, cap2, cur2, rfl, hg2, (hoth g2 he).trans hgg2, hlc2, hcm2, by omega, by rw [Nat.mul_one]; exact ht2⟩
      · have hzl : l.length + 1 ≤ z.length := by have := hz.length_le; simpa using this
        rcases own_form ho with ⟨rfl, hn⟩ | ⟨g2, cap2, cur2, rfl, hg2, hgg2, hlc2, hcm2, hcs2, ht2⟩
        · rw [hn] at hzl; simp at hzl
        · refine ⟨by rw [enc_len (enc := encI) (sz := 1) (fun _ => rfl)], .inr ?_⟩
          by_cases he : g2 = g
          · subst he
            rw [hgg] at hgg2
            injection hgg2 with hgg2
            injection hgg2 with e1 _ _
            subst e1
            refine ⟨g2, cap2, _, rfl, hg2, hgW, hlc2, hcm2, by rw [hsz']; omega, ?_⟩
            rw [Nat.mul_one]
            obtain ⟨z2, rfl⟩ := hz
            have hd : cur.toList.drop (l.length + 1) = (cur.toList.drop (l.length + 1)) := rfl
            have h3 : ((l ++ [y]) ++ z2).flatMap encI = l.flatMap encI ++ encI y ++ z2.flatMap encI := by simp [List.flatMap_append]
            have h4 : cur.toList.take ((l ++ [y]) ++ z2).length = l.flatMap encI ++ encI y ++ z2.flatMap encI := ht2.trans h3
            have h5 : (cur.toList.drop (l.length + 1)).take z2.length = z2.flatMap encI := by
              have h6 : (cur.toList.take ((l ++ [y]) ++ z2).length).drop (l.length + 1) = z2.flatMap encI := by
                rw [h4]
                exact List.drop_left' (by simp [hfl])
              rw [← h6, List.drop_take]
              congr 1
              simp; omega
            show List.take _ (l.flatMap encI ++ encI y ++ cur.toList.drop (l.length + 1)) = _
            rw [h3, List.take_append, List.take_of_length_le (by simp [hfl])]
            congr 1
            rw [← h5]
            congr 1
            simp [hfl]; omega
          · exact ⟨g2, cap2, cur2, rfl, hg2, (hoth g2 he).trans hgg2, hlc2, hcm2, by omega, by rw [Nat.mul_one]; exact ht2⟩
      · have hne : b2 ≠ g := by
          intro e
          subst e
          unfold Blk at hB
          rw [hgg] at hB
          injection hB with hB
          injection hB with e1 _ _
          rw [e1] at hcs
          simp at hcs
          omega
        exact (hoth b2 hne).trans hB
      · have hne : b2 ≠ g := by
          intro e
          subst e
          unfold Blk at hB
          rw [hgg] at hB
          injection hB with hB
          injection hB with e1 _ _
          rw [e1] at hcs
          simp at hcs
          omega
        exact (hoth b2 hne).trans hB
    · have holds : ∀ j u, (l.flatMap encI)[j]? = some u → W.cell? ((⟨g, 0, none⟩ : Addr).add j) = some u := World.ownsRow.cells hown (g := g) rfl
      have hr2 := run_append_grow (P := Tryz.prog) W 36 ty 3 i0 (.int .i64 0) Tryz.underlying36 hi hz0 ⟨g, 0, none⟩ l.length cap (l.flatMap encI) (by rw [hz1]; exact enc_len (enc := encI) (sz := 1) (fun _ => rfl) l) holds ⟨b, 0, none⟩ 1 c (encI y) (by rw [hz1]; rfl) hnews (by omega) (by omega) (growslice_fits (by omega) (by rw [hz2]; omega))
      rw [hr] at hr2
      injection hr2 with hv' hW'
      subst hW'
      exact RC.ext ((Ext.refl W).drew.alloc _)

/-- What choose's call reads: the boxes of the yield, of all numbers, of choose. -/
structure LM (fid : FuncId) (l by' ba bl ca : Nat) (A : Option Addr) (all : List Int) (W : World) : Prop where
  a : W.cell? ⟨ba, 0, none⟩ = some (.slice A all.length ca)
  s : ∀ i x, all[i]? = some x → ∃ bb off, A = some ⟨bb, off, none⟩ ∧ W.cell? ⟨bb, off + i, none⟩ = some (.int .i64 x)
  y : W.cell? ⟨by', 0, none⟩ = some (.func (.yield l) #[] #[])
  f : W.cell? ⟨bl, 0, none⟩ = some (.func (.func fid) #[] #[.pointer (some ⟨by', 0, none⟩), .pointer (some ⟨ba, 0, none⟩), .pointer (some ⟨bl, 0, none⟩)])
theorem LM.keep {fid : FuncId} {l by' ba bl ca n₀ : Nat} {X : Nat → Prop} {A : Option Addr} {all : List Int} {V W : World} (h : LM fid l by' ba bl ca A all V) (k : Keep n₀ X V W) (x1 : ¬ X by') (x2 : ¬ X ba) (x3 : ¬ X bl) (x4 : ∀ b o, A = some ⟨b, o, none⟩ → ¬ X b) : LM fid l by' ba bl ca A all W :=
  ⟨k.cell x2 h.a, fun i x hx => by obtain ⟨bb, off, e, hc⟩ := h.s i x hx; exact ⟨bb, off, e, k.cell (x4 _ _ e) hc⟩, k.cell x1 h.y, k.cell x3 h.f⟩

/-- The lists that begin so. -/
def tails (k : Nat) (g r : List Int) : List (List Int) := (combos k r).map (g ++ ·)
theorem tails_nil (k : Nat) (g : List Int) : tails (k + 1) g [] = [] := rfl
theorem tails_cons (k : Nat) (g : List Int) (x : Int) (r : List Int) : tails (k + 1) g (x :: r) = tails k (g ++ [x]) r ++ tails (k + 1) g r := by
  unfold tails
  rw [combos, List.map_append, List.map_map]
  congr 1
  refine List.map_congr_left fun u _ => ?_
  simp [Function.comp]
theorem tails_zero (g r : List Int) : tails 0 g r = [g] := by simp [tails, combos]

def listsTo (all : List Int) (m : Nat) : List (List Int) := (List.range m).flatMap fun n => combos n all
theorem listsTo_succ (all : List Int) (m : Nat) : listsTo all (m + 1) = listsTo all m ++ tails m [] all := by
  unfold listsTo tails
  rw [List.range_succ, List.flatMap_append]
  simp
theorem listsTo_pre (all : List Int) : ∀ {k m : Nat}, k ≤ m → listsTo all k <+: listsTo all m := by
  intro k m h
  induction m with
  | zero => have : k = 0 := by omega
            subst this; exact List.prefix_refl _
  | succ m ih =>
    by_cases hk : k = m + 1
    · rw [hk]; exact List.prefix_refl _
    · exact (ih (by omega)).trans (by rw [listsTo_succ]; exact List.prefix_append _ _)

end Go.Proofs.YtkpengeaolcjhaaGreatDoor
/- core.first: the first thing that is as it should be. -/
namespace Go.Proofs.YtkpengeaolcjhaaGreatDoor
open Go.RowKit Go.Shelf Go.Lib
set_option maxRecDepth 100000
set_option linter.unusedSimpArgs false
attribute [local go_sem] Oper.semAt_some

/-- **THE STATEMENT**, where the body is told that the loop's two records are no cells. -/
theorem wp_rangeFunc2 {α : Type} {P : Program} {g : Operand} {p : Tmp} {assign body : Code} {Q : Exit → Act → World → Prop} {a : Act} {w : World} {gf : FuncId} {lb : Array Value} (hg : a.eval g = .func (.func gf) #[] lb)
    (eg : ∀ args w, (callFunc gf args).run P w = .ok (.enter gf args) w) {n₀ : Nat} {X : Nat → Prop} {H : α → Value → World → Prop} {xs : List α} {w0 : World} (hseq : Seqs P gf lb n₀ X H xs w0) (hE : Ext w0 w) (hn : n₀ ≤ w.heap.size)
    (hH : ∀ x v W r o, H x v W → W.heap[w.heap.size + 1]? = some (.loop r) → H x v (W.putObj (w.heap.size + 1) o))
    (I : List α → World → Prop) (Ix : Code → List α → World → Prop) (hI : ∀ pre A B, I pre A → w.heap.size + 1 < A.heap.size → Turn w.heap.size A B → I pre B) (hIx : ∀ c pre A B, Ix c pre A → w.heap.size + 1 < A.heap.size → Turn w.heap.size A B → Ix c pre B)
    (h0 : ∀ W, Ext w W → I [] W) (a₁ : Value → Act)
    (hassign : ∀ (m l : Nat) (v : Value) (W : World) (K : Act → World → Prop), K (a₁ v) W → assign.wpIn (Fence.wide.inRound l) m P (Exit.then K (fun _ _ _ => False)) { tmps := a.tmps.setIfInBounds p v, defers := [] } W)
    (hbody : ∀ (m l : Nat) (pre : List α) (x : α) (v : Value) (W : World), I pre W → H x v W → pre ++ [x] <+: xs → w.heap.size + 1 < W.heap.size → (∃ d, W.heap[w.heap.size]? = some (.deferred d)) → (∃ r, W.heap[w.heap.size + 1]? = some (.loop r)) → body.wpIn (Fence.wide.inRound l) m P (rPost n₀ X w.heap.size I Ix (pre ++ [x]) W) (a₁ v) W)
    (hdone : ∀ W, I xs W → w.heap.size + 1 < W.heap.size → W.heap[w.heap.size]? = some (.deferred (some [])) → Q .normal { a with defers := { target := .collected w.heap.size, args := #[] } :: a.defers } W)
    (hstop : ∀ c pre W, pre <+: xs → Ix c pre W → w.heap.size + 1 < W.heap.size → W.heap[w.heap.size]? = some (.deferred (some [])) → c.wp P Q { a with defers := { target := .collected w.heap.size, args := #[] } :: a.defers } W) :
    (Code.rangeFunc g #[p] assign body).wp P Q a w := by
  refine (wpIn_wide (n := 0)).1 (wpIn_rangeFunc ?_)
  intro fn _
  obtain ⟨rec, hrec⟩ : ∃ rec : LoopState → Option Code → Loop, rec = fun st pe => { state := st, pending := pe, fn, tmps := a.tmps, params := #[p], assign, body, defers := w.heap.size } := ⟨_, rfl⟩
  generalize hW1 : (w.alloc (.deferred (some []))).alloc (.loop (rec .ready none)) = W1
  have hE1 : Ext w W1 := by rw [← hW1]; exact (Ext.al _ _).alloc _
  have hL1 : W1.heap[w.heap.size + 1]? = some (.loop (rec .ready none)) := by
    rw [← hW1]; have := World.alloc_heap_new (w.alloc (.deferred (some []))) (.loop (rec .ready none)); rwa [World.size_alloc] at this
  have hK1 : W1.heap[w.heap.size]? = some (.deferred (some [])) := by
    rw [← hW1]; exact (Below.heap_alloc _ _ _ (by simp)).trans (World.alloc_heap_new w _)
  have lt_of : ∀ {W : World} {o : Obj}, W.heap[w.heap.size + 1]? = some o → w.heap.size + 1 < W.heap.size := fun h => (Array.getElem?_eq_some_iff.1 h).1
  refine ⟨w.heap.size + 1, [{ target := .collected w.heap.size, args := #[] }], W1, { target := .fn (.func gf) lb, args := #[.func (.yield (w.heap.size + 1)) #[] #[]] }, W1, gf, #[.func (.yield (w.heap.size + 1)) #[] #[]] ++ lb, W1, ?_, ?_, fun _ _ => trivial, ?_, wide_depth _, ?_⟩
  · rw [wide_none, ← hW1, hrec]; exact run_enterLoop_outer _ _ _ _ _
  · simp only [resolve, hg]
    simp [go_sem]
  · simp [invoke, go_sem, eg]
  refine callsIn_wide.2 ((hseq (w.heap.size + 1)
    (fun pre W => I pre W ∧ W.heap[w.heap.size + 1]? = some (.loop (rec .ready none)) ∧ W.heap[w.heap.size]? = some (.deferred (some [])))
    (fun pre W => ∃ c, Ix c pre W ∧ W.heap[w.heap.size + 1]? = some (.loop (rec .done (some c))) ∧ W.heap[w.heap.size]? = some (.deferred (some [])))
    W1 (hE.trans hE1) ?_ ?_ ?_ ⟨h0 _ hE1, hL1, hK1⟩).mono ?_)
  · rintro pre A B ⟨h1, h2, h3⟩ hAB
    have hl := lt_of h2
    exact ⟨hI _ _ _ h1 hl (Turn.ext hAB), (hAB.block _ hl).trans h2, (hAB.block _ (by omega)).trans h3⟩
  · rintro pre A B ⟨c, h1, h2, h3⟩ hAB
    have hl := lt_of h2
    exact ⟨c, hIx _ _ _ _ h1 hl (Turn.ext hAB), (hAB.block _ hl).trans h2, (hAB.block _ (by omega)).trans h3⟩
  · rintro m pre x v W ⟨hi, hl, hk⟩ hx hpre
    have hlt := lt_of hl
    have hy := run_yield (P := P) (args := #[v]) hl (by rw [hrec]; rfl)
    refine ⟨fn, a.tmps.setIfInBounds p v, assign, body, by rw [hy, hrec]; simp, roundIn_of_wpIn trivial ?_⟩
    have hsz : ∀ (W : World) o, (W.putObj (w.heap.size + 1) o).heap.size = W.heap.size := fun _ _ => World.putObj_size
    have hb2 : (W.putObj (w.heap.size + 1) (.loop { rec .ready none with state := .busy })).heap[w.heap.size + 1]? = some (.loop { rec .ready none with state := .busy }) := World.putObj_heap_same hlt
    have hd2 : (W.putObj (w.heap.size + 1) (.loop { rec .ready none with state := .busy })).heap[w.heap.size]? = some (.deferred (some [])) := (World.putObj_heap_other (by omega)).trans hk
    have fin : ∀ (jump : Option Code) (W3 : World), W3.heap[w.heap.size + 1]? = some (.loop { rec .ready none with state := .busy }) → W3.heap[w.heap.size]? = some (.deferred (some [])) →
        (Instr.endRound (w.heap.size + 1) jump).run P W3 = .ok (.bool jump.isNone) (W3.putObj (w.heap.size + 1) (.loop (rec (if jump.isNone then .ready else .done) jump))) ∧
        (W3.putObj (w.heap.size + 1) (.loop (rec (if jump.isNone then .ready else .done) jump))).heap[w.heap.size + 1]? = some (.loop (rec (if jump.isNone then .ready else .done) jump)) ∧
        (W3.putObj (w.heap.size + 1) (.loop (rec (if jump.isNone then .ready else .done) jump))).heap[w.heap.size]? = some (.deferred (some [])) := fun jump W3 h1 h2 => by
      have := run_endRound (P := P) jump h1
      rw [hrec] at this ⊢
      exact ⟨this, World.putObj_heap_same (lt_of h1), (World.putObj_heap_other (by omega)).trans h2⟩
    have hstart : ∀ {A : Act}, A = a₁ v → ∃ w₂, (Instr.beginRound (w.heap.size + 1)).run P W = .ok () w₂ ∧ body.wpIn (Fence.wide.inRound (w.heap.size + 1)) m P (roundPost P (w.heap.size + 1) fun e W' =>
        (e = .returned (.bool true) ∧ (I (pre ++ [x]) W' ∧ W'.heap[w.heap.size + 1]? = some (.loop (rec .ready none)) ∧ W'.heap[w.heap.size]? = some (.deferred (some []))) ∧ Keep n₀ X W W') ∨
        (e = .returned (.bool false) ∧ ∃ c, Ix c (pre ++ [x]) W' ∧ W'.heap[w.heap.size + 1]? = some (.loop (rec .done (some c))) ∧ W'.heap[w.heap.size]? = some (.deferred (some [])))) A w₂ := by
      rintro A rfl
      refine ⟨_, run_beginRound hl (by rw [hrec]), wpIn_mono (hbody m _ pre x v _ (hI _ _ _ hi hlt (Turn.put _ _)) (hH _ _ _ _ _ hx hl) hpre (by rw [hsz]; exact hlt) ⟨_, hd2⟩ ⟨_, hb2⟩) ?_⟩
      rintro e a3 W3 hp
      cases e with
      | normal =>
        obtain ⟨hk3, hd3, hl3, hi3⟩ := hp
        rw [hb2] at hl3; rw [hd2] at hd3
        obtain ⟨hr, hl4, hd4⟩ := fin none W3 hl3 hd3
        exact ⟨_, _, hr, .inl ⟨rfl, ⟨hI _ _ _ hi3 (lt_of hl3) (Turn.put _ _), hl4, hd4⟩, ((keep_put hl hn).trans hk3).trans (keep_put hl3 hn)⟩⟩
      | ret =>
        obtain ⟨hd3, hl3, hi3⟩ := hp
        rw [hb2] at hl3; rw [hd2] at hd3
        obtain ⟨hr, hl4, hd4⟩ := fin (some .ret) W3 hl3 hd3
        exact ⟨_, _, hr, .inr ⟨rfl, .ret, hIx _ _ _ _ hi3 (lt_of hl3) (Turn.put _ _), hl4, hd4⟩⟩
      | exit id =>
        obtain ⟨hd3, hl3, hi3⟩ := hp
        rw [hb2] at hl3; rw [hd2] at hd3
        obtain ⟨hr, hl4, hd4⟩ := fin (some (.exit id)) W3 hl3 hd3
        exact ⟨_, _, hr, .inr ⟨rfl, .exit id, hIx _ _ _ _ hi3 (lt_of hl3) (Turn.put _ _), hl4, hd4⟩⟩
      | goto t =>
        obtain ⟨hd3, hl3, hi3⟩ := hp
        rw [hb2] at hl3; rw [hd2] at hd3
        obtain ⟨hr, hl4, hd4⟩ := fin (some (.goto t)) W3 hl3 hd3
        exact ⟨_, _, hr, .inr ⟨rfl, .goto t, hIx _ _ _ _ hi3 (lt_of hl3) (Turn.put _ _), hl4, hd4⟩⟩
      | panic ch => exact hp.elim
      | outgrown => exact hp.elim
    refine hassign m (w.heap.size + 1) v W _ ?_
    exact hstart rfl
  · rintro e W2 ⟨⟨v, rfl⟩, (⟨hi, hl, hk⟩ | ⟨pre, hpre, c, hi, hl, hk⟩)⟩
    · refine ⟨none, _, by have := run_endLoop (P := P) hl (by rw [hrec]; simp); rw [hrec] at this; exact this, ?_⟩
      exact hdone _ (hI _ _ _ hi (lt_of hl) (Turn.put _ _)) (by rw [World.putObj_size]; exact lt_of hl) ((World.putObj_heap_other (by omega)).trans hk)
    · refine ⟨some c, _, by have := run_endLoop (P := P) hl (by rw [hrec]; simp); rw [hrec] at this; exact this, ?_⟩
      exact wpIn_wide.2 (hstop c pre _ hpre (hIx _ _ _ _ hi (lt_of hl) (Turn.put _ _)) (by rw [World.putObj_size]; exact lt_of hl) ((World.putObj_heap_other (by omega)).trans hk))

@[go_sem] theorem callVal_func2 (g : FuncId) (fi lb vs : Array Value) : callVal (.func (.func g) fi lb) vs = callFunc g (fi ++ vs ++ lb) := by
  simp only [callVal, Deferred.ofValue]
  rfl
/-- A slice that does not lie in a loop's two records. -/
def SlX (s : Nat) (W : World) (v : Value) (x : List Int) : Prop :=
  ∃ a c, v = .slice a x.length c ∧ x.length ≤ c ∧ c ≤ maxLen ∧ (0 < x.length → ∃ b off, a = some ⟨b, off, none⟩ ∧ b < W.heap.size ∧ (b ≠ s ∧ b ≠ s + 1) ∧ ∀ k y, x[k]? = some y → ∀ j u, (encI y)[j]? = some u → W.cell? ⟨b, off + k * 1 + j, none⟩ = some u)
theorem SlX.sl {s : Nat} {W : World} {v : Value} {x : List Int} (h : SlX s W v x) : SlI W v x := by
  obtain ⟨a, c, hv, hl, hc, hcell⟩ := h
  refine ⟨a, c, hv, hl, hc, fun hz => ?_⟩
  obtain ⟨b, off, hA, hb, -, hcell⟩ := hcell hz
  exact ⟨b, off, hA, hb, hcell⟩
theorem SlX.of {s : Nat} {A : World} {v : Value} {x : List Int} (h : SlI A v x) (h0 : ∃ d, A.heap[s]? = some (.deferred d)) (h1 : ∃ r, A.heap[s + 1]? = some (.loop r)) : SlX s A v x := by
  obtain ⟨a, c, hv, hl, hc, hcell⟩ := h
  refine ⟨a, c, hv, hl, hc, fun hz => ?_⟩
  obtain ⟨b, off, hA, hb, hcell⟩ := hcell hz
  obtain ⟨d, h0⟩ := h0
  obtain ⟨r, h1⟩ := h1
  obtain ⟨c', t, f, hbk⟩ := (is_cells (hcell 0 x[0] (List.getElem?_eq_getElem hz) 0 _ rfl)).2
  exact ⟨b, off, hA, hb, ⟨(by rintro rfl; rw [hbk] at h0; cases h0), (by rintro rfl; rw [hbk] at h1; cases h1)⟩, hcell⟩
theorem SlX.turn {s : Nat} {A B : World} {v : Value} {x : List Int} (h : SlX s A v x) (hT : Turn s A B) : SlX s B v x := by
  obtain ⟨a, c, hv, hl, hc, hcell⟩ := h
  refine ⟨a, c, hv, hl, hc, fun hz => ?_⟩
  obtain ⟨b, off, hA, hb, hn, hcell⟩ := hcell hz
  exact ⟨b, off, hA, Nat.lt_of_lt_of_le hb hT.size, hn, fun k y hy j u hu => (World.cell?_of_block (a := ⟨b, _, none⟩) (hT.block b hb hn.1 hn.2)).trans (hcell k y hy j u hu)⟩
theorem SlX.ext {s : Nat} {A B : World} {v : Value} {x : List Int} (h : SlX s A v x) (hE : Ext A B) : SlX s B v x := h.turn (Turn.ext hE)
theorem SlX.set {s : Nat} {A : World} {v : Value} {x : List Int} (h : SlX s A v x) {g i : Nat} {t : TypeId} {u0 : Value} (hB : Blk A g t #[u0]) (hu0 : ∀ n, u0 ≠ .int .i64 n) (u : Value) : SlX s (A.setCell ⟨g, i, none⟩ u) v x := by
  obtain ⟨a, c, hv, hl, hc, hcell⟩ := h
  refine ⟨a, c, hv, hl, hc, fun hz => ?_⟩
  obtain ⟨b, off, hA, hb, hn, hcell⟩ := hcell hz
  refine ⟨b, off, hA, by simpa [World.setCell] using hb, hn, fun k y hy j w hw => ?_⟩
  have hx := hcell k y hy j w hw
  have hw' : w = .int .i64 y := by
    match j, hw with
    | 0, hw => simpa using hw.symm
  have hbg : b ≠ g := by
    rintro rfl
    rw [hB.cell, hw'] at hx
    cases hi : off + k * 1 + j with
    | zero => rw [hi] at hx; simp at hx; exact hu0 _ hx
    | succ m => rw [hi] at hx; simp at hx
  exact (World.cell?_of_block (a := ⟨b, _, none⟩) (Below.heap_setCell A ⟨g, i, none⟩ u b hbg)).trans hx

end Go.Proofs.YtkpengeaolcjhaaGreatDoor
/- slices.DeleteFunc at draws and weighings, on memory of the call's own; slices.Clone at them. -/
namespace Go.Proofs.YtkpengeaolcjhaaGreatDoor
open Go.RowKit Go.Shelf Go.Lib
set_option maxRecDepth 100000
set_option linter.unusedSimpArgs false

theorem own_cellset {w : World} {base sz g n cap k : Nat} {e : TypeId} {xs : List Value} {u : Value} (h : w.ownsRow base e sz (.slice (some ⟨g, 0, none⟩) n cap) n xs) : (w.setCell ⟨g, k, none⟩ u).ownsRow base e sz (.slice (some ⟨g, 0, none⟩) n cap) n (xs.set k u) := by
  obtain ⟨h1, h2⟩ := h
  refine ⟨by rw [List.length_set]; exact h1, .inr ?_⟩
  rcases h2 with ⟨h2, _⟩ | ⟨g', cap', cur, e1, hb, hh, hlc, hcm, hs, ht⟩
  · cases h2
  · injection e1 with e1 e2 e3
    injection e1 with e1
    injection e1 with e1 _ _
    subst e1 e3
    refine ⟨g, cap, cur.setIfInBounds k u, rfl, hb, ?_, hlc, hcm, by simpa using hs, ?_⟩
    · simp [World.setCell, Array.getElem?_modify, hh]
    · rw [Array.toList_setIfInBounds, ← ht]
      rw [List.take_set]
theorem flat_set4 {α : Type} {enc : α → List Value} (henc : ∀ x, (enc x).length = 4) {x : α} {a b c d : Value} (hx : enc x = [a, b, c, d]) : ∀ (l : List α) (i : Nat), i < l.length →
    ((((l.flatMap enc).set (i * 4) a).set (i * 4 + 1) b).set (i * 4 + 2) c).set (i * 4 + 3) d = (l.set i x).flatMap enc
  | y :: l, 0, _ => by
    obtain ⟨p, q, r, s, hy⟩ : ∃ p q r s, enc y = [p, q, r, s] := by
      match h : enc y, henc y with
      | [p, q, r, s], _ => exact ⟨p, q, r, s, rfl⟩
    simp [hy, hx]
  | y :: l, i + 1, h => by
    have ih := flat_set4 henc hx l i (by simpa using h)
    obtain ⟨p, q, r, s, hy⟩ : ∃ p q r s, enc y = [p, q, r, s] := by
      match h : enc y, henc y with
      | [p, q, r, s], _ => exact ⟨p, q, r, s, rfl⟩
    rw [List.set_cons_succ, List.flatMap_cons, List.flatMap_cons, ← ih, hy]
    rw [show (i + 1) * 4 = i * 4 + 4 by omega]
    simp only [List.cons_append, List.nil_append, List.set_cons_succ, show i * 4 + 4 + 1 = i * 4 + 1 + 4 by omega, show i * 4 + 4 + 2 = i * 4 + 2 + 4 by omega, show i * 4 + 4 + 3 = i * 4 + 3 + 4 by omega]
theorem own_put4 {α : Type} {enc : α → List Value} (henc : ∀ x, (enc x).length = 4) {w : World} {base g n cap i : Nat} {e : TypeId} {m : List α} {x : α} {a b c d : Value} (hx : enc x = [a, b, c, d])
    (h : Own enc e 4 w base (.slice (some ⟨g, 0, none⟩) n cap) m) (hn : n = m.length) (hi : i < n) :
    Own enc e 4 ((((w.setCell ⟨g, i * 4, none⟩ a).setCell ⟨g, i * 4 + 1, none⟩ b).setCell ⟨g, i * 4 + 2, none⟩ c).setCell ⟨g, i * 4 + 3, none⟩ d) base (.slice (some ⟨g, 0, none⟩) n cap) (m.set i x) := by
  unfold Own at *
  rw [List.length_set, ← hn, ← flat_set4 henc hx m i (by omega)]
  rw [← hn] at h
  exact own_cellset (own_cellset (own_cellset (own_cellset h)))
theorem own_frozen {α : Type} {enc : α → List Value} {w : World} {base g n cap sz : Nat} {e : TypeId} {m : List α} (h : Own enc e sz w base (.slice (some ⟨g, 0, none⟩) n cap) m) (k : Nat) : w.frozen? ⟨g, k, none⟩ = false := by
  rcases h.2 with ⟨h2, _⟩ | ⟨g', cap', cur, e1, hb, hh, _⟩
  · cases h2
  · injection e1 with e1 _ _
    injection e1 with e1
    injection e1 with e1 _ _
    subst e1
    simp [World.frozen?, hh]
/-- The row, cut short. -/
theorem own_short {α : Type} {enc : α → List Value} {sz : Nat} (henc : ∀ x, (enc x).length = sz) {w : World} {base g n cap k : Nat} {e : TypeId} {m : List α} (h : Own enc e sz w base (.slice (some ⟨g, 0, none⟩) n cap) m) (hk : k ≤ m.length) :
    Own enc e sz w base (.slice (some ⟨g, 0, none⟩) k cap) (m.take k) := by
  obtain ⟨h1, h2⟩ := h
  refine ⟨enc_len henc _, .inr ?_⟩
  rcases h2 with ⟨h2, _⟩ | ⟨g', cap', cur, e1, hb, hh, hlc, hcm, hs, ht⟩
  · cases h2
  · injection e1 with e1 e2 e3
    injection e1 with e1
    injection e1 with e1 _ _
    subst e1 e3
    have hl : (m.take k).length = k := by rw [List.length_take]; omega
    refine ⟨g, cap, cur, by rw [hl], hb, hh, by rw [hl]; omega, hcm, hs, ?_⟩
    rw [hl]
    have hm : m.flatMap enc = (m.take k).flatMap enc ++ (m.drop k).flatMap enc := by rw [← List.flatMap_append, List.take_append_drop]
    have h3 : (cur.toList.take (m.length * sz)).take (k * sz) = cur.toList.take (k * sz) := by
      rw [List.take_take, Nat.min_eq_left (Nat.mul_le_mul_right _ hk)]
    rw [← h3, ht, hm, List.take_append_of_le_length (by rw [enc_len henc, hl]; exact Nat.le_refl _), List.take_of_length_le (by rw [enc_len henc, hl]; exact Nat.le_refl _)]
/-- clear of a row's end. -/
theorem run_clear_own {α : Type} {enc : α → List Value} {sz : Nat} (henc : ∀ x, (enc x).length = sz) {t e ty : TypeId} {z : Value} (ht : Tryz.prog.underlying t = some (.slice e)) (hz : ∀ W, (zeroValue e).run Tryz.prog W = .ok z W) (hzs : z.cells.size = sz) (hsz : 0 < sz) (hz1 : ∀ i, i < sz → (z.cells[i]!).oneCell' = true)
    {w : World} {base g n cap k c : Nat} {m : List α} (h : Own enc e sz w base (.slice (some ⟨g, 0, none⟩) n cap) m) (hn : n = m.length) (hk : k ≤ n) :
    ∃ w', (Builtin.clear_ #[t] ty #[.slice (some ⟨g, k * sz, none⟩) (n - k) c]).run Tryz.prog w = .ok (.tuple #[]) w' ∧ Own enc e sz w' base (.slice (some ⟨g, 0, none⟩) k cap) (m.take k) ∧ w.grownBy w' (some g) := by
  by_cases h0 : n - k = 0
  · refine ⟨w, ?_, own_short henc h (by omega), World.grownBy.refl _ _⟩
    rw [h0]
    simp [Builtin.clear_, run_underlying ht]
  · obtain ⟨h1, h2⟩ := id h
    rcases h2 with ⟨h2, _⟩ | ⟨g', cap', cur, e1, hb, hh, hlc, hcm, hs, htk⟩
    · cases h2
    · injection e1 with e1 e2 e3
      injection e1 with e1
      injection e1 with e1 _ _
      subst e1 e3
      obtain ⟨q, hq⟩ : ∃ q, n - k = q + 1 := ⟨n - k - 1, by omega⟩
      have hle : (Builtin.zeroCells z.cells (n - k)).toList.length = (n - k) * sz := by rw [Array.length_toList, size_zeroCells, hzs]
      have hsum : k * sz + (n - k) * sz = n * sz := by rw [← Nat.add_mul, Nat.add_sub_cancel' hk]
      have hns : n * sz ≤ cap * sz := Nat.mul_le_mul_right _ (by omega)
      have hst := run_storeCells_at (P := Tryz.prog) g (k * sz) e (Builtin.zeroCells z.cells (n - k)).toList 0 cur w hh (by rw [hle, hs]; omega) (fun u hu => by
        simp only [Builtin.zeroCells, Array.toList_map, List.mem_map] at hu
        obtain ⟨i, -, rfl⟩ := hu
        exact hz1 _ (by rw [hzs]; exact Nat.mod_lt _ hsz))
      generalize hrow : (cur.toList.take (k * sz + 0) ++ (Builtin.zeroCells z.cells (n - k)).toList ++ cur.toList.drop (k * sz + 0 + (Builtin.zeroCells z.cells (n - k)).toList.length)).toArray = row at hst
      refine ⟨w.setRow g row, ?_, ?_, ⟨rfl, rfl, rfl, by simp [World.setRow], fun i _ hi => setRow_other w g i _ (fun e => hi (by rw [e]))⟩⟩
      · have h9 := hst
        rw [hq] at h9 ⊢
        simp [Builtin.clear_, run_underlying ht, hz, h9]
      · obtain ⟨s1, s2⟩ := own_short henc h (show k ≤ m.length by omega)
        refine ⟨s1, .inr ?_⟩
        rcases s2 with ⟨s2, _⟩ | ⟨g', cap', cur', e1, hb', hh', hlc', hcm', hs', htk'⟩
        · cases s2
        · injection e1 with e1 e2 e3
          injection e1 with e1
          injection e1 with e1 _ _
          subst e1 e3
          rw [hh] at hh'
          injection hh' with hh'
          injection hh' with hh' _ _
          subst hh'
          refine ⟨g, cap, row, by rw [← e2], hb, setRow_heap w g cur row e _ hh, hlc', hcm, ?_, ?_⟩
          · rw [← hrow]
            simp only [List.size_toArray, List.length_append, List.length_take, List.length_drop, hle, Array.length_toList]
            omega
          · rw [← htk', ← hrow, Nat.add_zero]
            have hl : (m.take k).length = k := by rw [List.length_take]; omega
            rw [hl]
            show List.take (k * sz) (List.take (k * sz) cur.toList ++ (Builtin.zeroCells z.cells (n - k)).toList ++ _) = _
            rw [List.append_assoc, List.take_append_of_le_length (by rw [List.length_take, Array.length_toList]; omega), List.take_take, Nat.min_self]
theorem ext_row {a b : World} (h : Ext a b) (row : Option Nat) : a.grownBy b row := ⟨h.os, h.tape, h.output, h.size, fun i hi _ => h.block i hi⟩
theorem row_below {a b : World} {base g : Nat} (h : a.grownBy b (some g)) (hb : base ≤ a.heap.size) (hg : base ≤ g) : Below base a b := (Below.refl base a).grown h hb (fun k e => by injection e with e; omega)
theorem idxF_cases {α : Type} (p : α → Bool) (l : List α) : (idxF p l = -1 ∧ ∀ x ∈ l, p x = false) ∨ ∃ k x, idxF p l = (k : Nat) ∧ l[k]? = some x ∧ p x = true ∧ ∀ j y, j < k → l[j]? = some y → p y = false := by
  cases h : l.findIdx? p with
  | none =>
    rw [List.findIdx?_eq_none_iff] at h
    exact .inl ⟨idxF_none p l h, h⟩
  | some k =>
    rw [List.findIdx?_eq_some_iff_getElem] at h
    obtain ⟨hk, hp, hj⟩ := h
    have hj' : ∀ j y, j < k → l[j]? = some y → p y = false := fun j y hjk hy => by
      have h1 := hj j hjk
      obtain ⟨h2, h3⟩ := List.getElem?_eq_some_iff.1 hy
      rw [h3] at h1
      simpa using h1
    exact .inr ⟨k, l[k], idxF_some p l k _ (List.getElem?_eq_getElem hk) hp hj', List.getElem?_eq_getElem hk, hp, hj'⟩

end Go.Proofs.YtkpengeaolcjhaaGreatDoor
