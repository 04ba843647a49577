/- The kind of a bale by the grades of its layers: slices.Min and Max, core.alike, cuts, kind. -/
import Derived.Test.YtcoiahjehlplfaaDoorCoreF
namespace Go.Proofs.YtcoiahjehlplfaaDoor
open Go.RowKit Go.Shelf
set_option maxRecDepth 100000
set_option linter.unusedSimpArgs false

def mins (l : List Int) : Int := l.foldl min ((l[0]?).getD 0)
def maxs (l : List Int) : Int := l.foldl max ((l[0]?).getD 0)

set_option maxHeartbeats 400000 in
theorem f131_any (l : List Int) (v : Value) (w : World) (hs : SlI w v l) (h0 : 0 < l.length) :
    Calls Tryd.prog 131 #[v] w fun e w' => e = .returned (.int .i64 (mins l)) ∧ Ext w w' := by
  obtain ⟨A, n, c, rfl, hn, hlc, hcm⟩ := hs.form
  have hn0 : 0 < n := by have := hn.out; omega
  obtain ⟨b, off, x, rfl, hx, hb, hcell⟩ := hs.at_ hn0
  have c0 := SlI.cell hcell (Ext.refl _)
  have HX := Lib.hid (show mins l = l.foldl min x by unfold mins; rw [hx]; rfl)
  have HX1 := Lib.hid (show (l.take 1).foldl min x = x by
    cases l with
    | nil => simp at h0
    | cons y l => simp at hx; subst hx; simp)
  have hnz : ¬ ((n : Int) < 1) := by omega
  have hn1 : (0 : Int) < (n : Int) := by omega
  clear h0 hcell hx
  simp only [Int.natCast_zero, Nat.add_zero] at c0
  go_enter Tryd.func131, Tryd.ntmps131
  go_wp2
  go_loopg [3, 4] n (fun gg s3 s4 wr => ∃ kk : Nat, 1 ≤ kk ∧ kk ≤ n ∧ n - kk ≤ gg ∧ s4 = .int .i64 kk ∧ s3 = .int .i64 ((l.take kk).foldl min x) ∧ Aside (Ext w wr))
  case atStart => exact ⟨1, by omega, by omega, by omega, rfl, by rw [HX1.out], Ext.refl w⟩
  case round =>
    obtain ⟨kk, h1, hkk, hg, rfl, rfl, BW⟩ := hrel
    by_cases hlt : kk < n
    · have hltz : (kk : Int) < (n : Int) := by omega
      obtain ⟨b', off', y, e1, hy, hb', hcell'⟩ := hs.at_ hlt
      injection e1 with e1
      injection e1 with e1 e2
      subst e1 e2
      have c1 := SlI.cell hcell' BW.out
      have HY := Lib.hid (foldl_snoc min x l kk y hy)
      clear hy hcell' hs
      generalize hm : (l.take kk).foldl min x = m at HY ⊢
      go_wp2
      go_roundg (n - (kk + 1))
      case measure => omega
      case rel => exact ⟨kk + 1, by omega, by omega, by omega, rfl, by rw [HY.out], BW.out⟩
    · have HE := Lib.hid (show kk = n by omega); clear hs
      go_wp2
      go_ret
      exact ⟨by rw [HX.out, HE.out, List.take_of_length_le (by have := hn.out; omega)]; rfl, BW.out⟩

set_option maxHeartbeats 400000 in
theorem f132_any (l : List Int) (v : Value) (w : World) (hs : SlI w v l) (h0 : 0 < l.length) :
    Calls Tryd.prog 132 #[v] w fun e w' => e = .returned (.int .i64 (maxs l)) ∧ Ext w w' := by
  obtain ⟨A, n, c, rfl, hn, hlc, hcm⟩ := hs.form
  have hn0 : 0 < n := by have := hn.out; omega
  obtain ⟨b, off, x, rfl, hx, hb, hcell⟩ := hs.at_ hn0
  have c0 := SlI.cell hcell (Ext.refl _)
  have HX := Lib.hid (show maxs l = l.foldl max x by unfold maxs; rw [hx]; rfl)
  have HX1 := Lib.hid (show (l.take 1).foldl max x = x by
    cases l with
    | nil => simp at h0
    | cons y l => simp at hx; subst hx; simp)
  have hnz : ¬ ((n : Int) < 1) := by omega
  have hn1 : (0 : Int) < (n : Int) := by omega
  clear h0 hcell hx
  simp only [Int.natCast_zero, Nat.add_zero] at c0
  go_enter Tryd.func132, Tryd.ntmps132
  go_wp2
  go_loopg [3, 4] n (fun gg s3 s4 wr => ∃ kk : Nat, 1 ≤ kk ∧ kk ≤ n ∧ n - kk ≤ gg ∧ s4 = .int .i64 kk ∧ s3 = .int .i64 ((l.take kk).foldl max x) ∧ Aside (Ext w wr))
  case atStart => exact ⟨1, by omega, by omega, by omega, rfl, by rw [HX1.out], Ext.refl w⟩
  case round =>
    obtain ⟨kk, h1, hkk, hg, rfl, rfl, BW⟩ := hrel
    by_cases hlt : kk < n
    · have hltz : (kk : Int) < (n : Int) := by omega
      obtain ⟨b', off', y, e1, hy, hb', hcell'⟩ := hs.at_ hlt
      injection e1 with e1
      injection e1 with e1 e2
      subst e1 e2
      have c1 := SlI.cell hcell' BW.out
      have HY := Lib.hid (foldl_snoc max x l kk y hy)
      clear hy hcell' hs
      generalize hm : (l.take kk).foldl max x = m at HY ⊢
      go_wp2
      go_roundg (n - (kk + 1))
      case measure => omega
      case rel => exact ⟨kk + 1, by omega, by omega, by omega, rfl, by rw [HY.out], BW.out⟩
    · have HE := Lib.hid (show kk = n by omega); clear hs
      go_wp2
      go_ret
      exact ⟨by rw [HX.out, HE.out, List.take_of_length_le (by have := hn.out; omega)]; rfl, BW.out⟩

theorem foldl_min_mem : ∀ (l : List Int) (x : Int), l.foldl min x = x ∨ l.foldl min x ∈ l
  | [], x => .inl rfl
  | y :: l, x => by
    rw [List.foldl_cons]
    rcases foldl_min_mem l (min x y) with h | h
    · rw [h]
      by_cases hxy : x ≤ y
      · left; omega
      · right; rw [show min x y = y by omega]; exact List.mem_cons_self ..
    · exact .inr (List.mem_cons_of_mem _ h)
theorem foldl_max_mem : ∀ (l : List Int) (x : Int), l.foldl max x = x ∨ l.foldl max x ∈ l
  | [], x => .inl rfl
  | y :: l, x => by
    rw [List.foldl_cons]
    rcases foldl_max_mem l (max x y) with h | h
    · rw [h]
      by_cases hxy : y ≤ x
      · left; omega
      · right; rw [show max x y = y by omega]; exact List.mem_cons_self ..
    · exact .inr (List.mem_cons_of_mem _ h)
theorem mins_mem {l : List Int} (h : 0 < l.length) : mins l ∈ l := by
  unfold mins
  rw [List.getElem?_eq_getElem h, Option.getD_some]
  rcases foldl_min_mem l l[0] with e | e
  · rw [e]; exact List.getElem_mem _
  · exact e
theorem maxs_mem {l : List Int} (h : 0 < l.length) : maxs l ∈ l := by
  unfold maxs
  rw [List.getElem?_eq_getElem h, Option.getD_some]
  rcases foldl_max_mem l l[0] with e | e
  · rw [e]; exact List.getElem_mem _
  · exact e
/-- Whether some grades are alike. -/
def alikeL (l : List Int) : Bool := decide (maxs l - mins l ≤ 1)
/-- Numbers that can be reckoned with. -/
def Small (l : List Int) : Prop := ∀ n ∈ l, -1000000 ≤ n ∧ n ≤ 1000000

set_option maxHeartbeats 400000 in
theorem alike_any (l : List Int) (v : Value) (w : World) (hs : SlI w v l) (h0 : 0 < l.length) (hb : Small l) :
    Calls Tryd.prog 110 #[v] w fun e w' => e = .returned (.bool (alikeL l)) ∧ Ext w w' := by
  have h1 := hb _ (mins_mem h0)
  have h2 := hb _ (maxs_mem h0)
  have HS := Lib.hid hs
  obtain ⟨A, n, c, rfl, hn, hlc, hcm⟩ := hs.form
  clear hs
  go_enter Tryd.func110, Tryd.ntmps110
  go_wp2_with fail
  refine (f132_any l _ _ HS.out h0).mono ?_
  rintro e w1 ⟨rfl, hE1⟩
  have HE1 := Lib.hid hE1; clear hE1
  go_wp2_with fail
  refine (f131_any l _ _ (HS.out.ext HE1.out) h0).mono ?_
  rintro e w2 ⟨rfl, hE2⟩
  have HE2 := Lib.hid (HE1.out.trans hE2); clear hE2
  go_wp2
  go_ret
  exact ⟨rfl, HE2.out⟩
theorem Sl.take {α : Type} {enc : α → List Value} {sz : Nat} {W : World} {A : Option Addr} {n c k c' : Nat} {l : List α} (h : Sl enc sz W (.slice A n c) l) (hk : k ≤ n) (h1 : k ≤ c') (h2 : c' ≤ maxLen) : Sl enc sz W (.slice A k c') (l.take k) := by
  obtain ⟨a', c'', hv, hl, hc, hcell⟩ := h
  injection hv with e1 e2 e3
  subst e1 e2 e3
  refine ⟨_, _, by rw [List.length_take, Nat.min_eq_left hk], by rw [List.length_take]; omega, h2, fun h0 => ?_⟩
  rw [List.length_take] at h0
  obtain ⟨b, off, hA, hb, hcell⟩ := hcell (by omega)
  refine ⟨b, off, hA, hb, fun i x hi j u hu => hcell i x ?_ j u hu⟩
  rw [List.getElem?_take] at hi
  split at hi
  · exact hi
  · cases hi
theorem Sl.drop {α : Type} {enc : α → List Value} {sz : Nat} {W : World} {b off n c k c' : Nat} {l : List α} (h : Sl enc sz W (.slice (some ⟨b, off, none⟩) n c) l) (h1 : n - k ≤ c') (h2 : c' ≤ maxLen) : Sl enc sz W (.slice (some ⟨b, off + k * sz, none⟩) (n - k) c') (l.drop k) := by
  obtain ⟨a', c'', hv, hl, hc, hcell⟩ := h
  injection hv with e1 e2 e3
  subst e1 e2 e3
  refine ⟨_, _, by rw [List.length_drop], by rw [List.length_drop]; exact h1, h2, fun h0 => ?_⟩
  rw [List.length_drop] at h0
  obtain ⟨b', off', hA, hb, hcell⟩ := hcell (by omega)
  injection hA with hA
  injection hA with e1 e2
  subst e1 e2
  refine ⟨b, off + k * sz, rfl, hb, fun i x hi j u hu => ?_⟩
  rw [List.getElem?_drop] at hi
  have := hcell (k + i) x hi j u hu
  rw [Nat.add_mul] at this
  rwa [show off + k * sz + i * sz + j = off + (k * sz + i * sz) + j by omega]
/-- All cuts below m. -/
def cutAt (l : List Int) (k : Nat) : Bool := decide (1 ≤ k) && (alikeL (l.take k) && alikeL (l.drop k))
def cutsTo (l : List Int) : Nat → List Int
  | 0 => []
  | m + 1 => cutsTo l m ++ (if cutAt l m then [(m : Int)] else [])
def cutsL (l : List Int) : List Int := if alikeL l then [] else cutsTo l l.length
theorem cutsTo_len (l : List Int) (m : Nat) : (cutsTo l m).length ≤ m := by
  induction m with
  | zero => simp [cutsTo]
  | succ m ih => rw [cutsTo, List.length_append]; split <;> simp <;> omega
theorem Small.take {l : List Int} (h : Small l) (k : Nat) : Small (l.take k) := fun n hn => h n (List.mem_of_mem_take hn)
theorem Small.drop {l : List Int} (h : Small l) (k : Nat) : Small (l.drop k) := fun n hn => h n (List.mem_of_mem_drop hn)

set_option maxHeartbeats 1000000 in
theorem cuts_any (l : List Int) (v : Value) (w : World) (hs : SlI w v l) (h0 : 0 < l.length) (hlen : l.length ≤ 1000) (hb : Small l) :
    Calls Tryd.prog 76 #[v] w fun e w' => ∃ v', e = .returned v' ∧ SlI w' v' (cutsL l) ∧ Ext w w' := by
  have HS := Lib.hid hs
  obtain ⟨A, n, c, rfl, hn, hlc, hcm⟩ := hs.form
  have hn0 : 0 < n := by have := hn.out; omega
  obtain ⟨b, off, x, rfl, -, -, -⟩ := hs.at_ hn0
  have hn1000 : n ≤ 1000 := by have := hn.out; omega
  have HB := Lib.hid hb; have H0 := Lib.hid h0
  clear hs hb h0 hlen
  have hcm' : c ≤ maxLen := hcm
  go_enter Tryd.func76, Tryd.ntmps76
  go_wp2
  cases hal : alikeL l with
  | true =>
    have HAL := Lib.hid hal
    clear hal
    go_loopg [3, 4] 1 (fun gg s3 s4 wr => s4 = .int .i64 1 ∧ s3 = .slice none 0 0 ∧ Aside (Ext w wr))
    case atStart => exact ⟨rfl, rfl, Ext.refl _⟩
    case round =>
      obtain ⟨rfl, rfl, BW⟩ := hrel
      have hfin : ∀ W, SlI W (.slice none 0 0) (cutsL l) := fun W => by unfold cutsL; rw [if_pos HAL.out]; exact Sl.nil W
      have HFI := Lib.hid hfin; clear hfin
      by_cases h1 : 1 < n
      · have h1z : (1 : Int) < (n : Int) := by omega
        go_wp2_with fail
        refine (alike_any l _ _ (HS.out.ext BW.out) H0.out HB.out).mono ?_
        rintro e w1 ⟨rfl, hE⟩
        rw [HAL.out]
        go_wp2
        go_ret
        exact ⟨_, rfl, HFI.out _, BW.out.trans hE⟩
      · have h1z : ¬ (1 : Int) < (n : Int) := by omega
        go_wp2
        go_ret
        exact ⟨_, rfl, HFI.out _, BW.out⟩
  | false =>
    have HAL := Lib.hid hal
    clear hal
    go_loopg [3, 4] n (fun gg s3 s4 wr => ∃ kk : Nat, 1 ≤ kk ∧ kk ≤ n ∧ n - kk ≤ gg ∧ s4 = .int .i64 kk ∧ Aside (Own encI 3 1 wr w.heap.size s3 (cutsTo l kk)) ∧ Aside (Ext w wr))
    case atStart => exact ⟨1, by omega, by omega, by omega, rfl, Own.nil _ _, Ext.refl _⟩
    case round =>
      obtain ⟨kk, h1, hkk, hg, rfl, OW, BW⟩ := hrel
      by_cases hlt : kk < n
      · have hltz : (kk : Int) < (n : Int) := by omega
        have hkz : (0 : Int) ≤ (kk : Int) := by omega
        have hkc : (kk : Int) ≤ (c : Int) := by omega
        have hnc : ¬ (c = kk) := by omega
        have T1 := Lib.hid (HS.out.take (k := kk) (c' := c) (by omega) (by omega) hcm')
        have T2 := Lib.hid (show SlI w (.slice (some ⟨b, off + kk, none⟩) (n - kk) (c - kk)) (l.drop kk) by simpa only [Nat.mul_one] using HS.out.drop (k := kk) (c' := c - kk) (by omega) (by omega))
        have L1 := Lib.hid (show 0 < (l.take kk).length by rw [List.length_take]; have := hn.out; omega)
        have L2 := Lib.hid (show 0 < (l.drop kk).length by rw [List.length_drop]; have := hn.out; omega)
        have HCU := Lib.hid (show cutAt l kk = (alikeL (l.take kk) && alikeL (l.drop kk)) by unfold cutAt; rw [decide_eq_true h1, Bool.true_and])
        go_wp2_with fail
        refine (alike_any l _ _ (HS.out.ext BW.out) H0.out HB.out).mono ?_
        rintro e w1 ⟨rfl, hE⟩
        rw [HAL.out]
        have E1 := Lib.hid (BW.out.trans hE)
        have O1 := Lib.hid (OW.out.ext hE)
        clear hE BW OW
        go_wp2_with fail
        refine (alike_any (l.take kk) _ _ (T1.out.ext E1.out) L1.out (HB.out.take kk)).mono ?_
        rintro e w2 ⟨rfl, hE⟩
        have E2 := Lib.hid (E1.out.trans hE)
        have O2 := Lib.hid (O1.out.ext hE)
        clear hE O1 E1
        cases ha1 : alikeL (l.take kk) with
        | false =>
          have HC1 := Lib.hid (show cutsTo l (kk + 1) = cutsTo l kk by rw [cutsTo, HCU.out, ha1]; simp)
          clear ha1
          go_wp2
          go_roundg (n - (kk + 1))
          case measure => omega
          case rel => exact ⟨kk + 1, by omega, by omega, by omega, rfl, by rw [HC1.out]; exact O2.out, E2.out⟩
        | true =>
          have HA1 := Lib.hid ha1
          clear ha1
          go_wp2_with fail
          refine (alike_any (l.drop kk) _ _ (T2.out.ext E2.out) L2.out (HB.out.drop kk)).mono ?_
          rintro e w3 ⟨rfl, hE⟩
          have E3 := Lib.hid (E2.out.trans hE)
          have O3 := Lib.hid (O2.out.ext hE)
          clear hE O2 E2
          cases ha2 : alikeL (l.drop kk) with
          | false =>
            have HC1 := Lib.hid (show cutsTo l (kk + 1) = cutsTo l kk by rw [cutsTo, HCU.out, HA1.out, ha2]; simp)
            clear ha2
            go_wp2
            go_roundg (n - (kk + 1))
            case measure => omega
            case rel => exact ⟨kk + 1, by omega, by omega, by omega, rfl, by rw [HC1.out]; exact O3.out, E3.out⟩
          | true =>
            have HC1 := Lib.hid (show cutsTo l (kk + 1) = cutsTo l kk ++ [(kk : Int)] by rw [cutsTo, HCU.out, HA1.out, ha2]; simp)
            have HCL := Lib.hid (cutsTo_len l kk)
            clear ha2
            go_wp2_with (at_builtin; refine wpList_app encI 56 3 1 _ 8 Tryd.underlying56 info3x rfl (by decide) (by decide) (fun _ => rfl) encI_one rfl (.tmp 26) (.tmp 28) rfl w.heap.size _ (cutsTo l kk) rfl (O3.out.alloc _) w3.heap.size 1 (kk : Int) rfl (cells1 (by simp [go_sem])) (by have := HCL.out; omega) (by have := E3.out.size; simp; omega) ?_)
            intro g cap w' hown hg2 hbel _
            have HO := Lib.hid hown; clear hown
            have HBE := Lib.hid (show Ext w w' from Below.trans (E3.out.alloc _) hbel); clear hbel
            go_wp2
            go_roundg (n - (kk + 1))
            case measure => omega
            case rel => exact ⟨kk + 1, by omega, by omega, by omega, rfl, by rw [HC1.out]; exact HO.out, HBE.out⟩
      · have HKE := Lib.hid (show cutsL l = cutsTo l kk by unfold cutsL; rw [HAL.out, show l.length = kk by have := hn.out; omega]; rfl)
        go_wp2
        go_ret
        exact ⟨_, rfl, by rw [HKE.out]; exact (show SlI wr u3 _ from Own.sl (fun _ => rfl) OW.out), BW.out⟩
end Go.Proofs.YtcoiahjehlplfaaDoor
