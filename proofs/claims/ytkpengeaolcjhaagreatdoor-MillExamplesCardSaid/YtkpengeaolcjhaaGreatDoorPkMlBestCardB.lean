/- The kind of a bale by the grades of its layers: slices.Min and Max, core.alike, cuts, kind. -/
import Derived.Test.YtkpengeaolcjhaaGreatDoorPkMlBestCardA
import Derived.Orders
namespace Go.Proofs.YtkpengeaolcjhaaGreatDoor
open Go.RowKit Go.Shelf
set_option maxRecDepth 100000
set_option linter.unusedSimpArgs false

def mins (l : List Int) : Int := l.foldl min ((l[0]?).getD 0)
def maxs (l : List Int) : Int := l.foldl max ((l[0]?).getD 0)

set_option maxHeartbeats 400000 in
theorem f142_any (l : List Int) (v : Value) (w : World) (hs : SlI w v l) (h0 : 0 < l.length) :
    Calls Tryz.prog 142 #[v] w fun e w' => e = .returned (.int .i64 (mins l)) ∧ Ext w w' := by
  obtain ⟨A, n, c, rfl, hn, hlc, hcm⟩ := hs.form
  have hn0 : 0 < n := by have := hn.out; omega
  obtain ⟨b, off, x, rfl, hx, hb, hcell⟩ := hs.at_ hn0
  have c0 := SlI.cell hcell (Ext.refl _)
  have HX := Lib.hid (show mins l = l.foldl min x by unfold mins; rw [hx]; rfl)
  have HX1 := Lib.hid (show (l.take 1).foldl min x = x by
    cases l with
    | nil => simp at h0
    | cons y l => simp at hx; subst hx; simp)
  have hnz : ¬ ((n : Int) < 1) := by omega
  have hn1 : (0 : Int) < (n : Int) := by omega
  clear h0 hcell hx
  simp only [Int.natCast_zero, Nat.add_zero] at c0
  go_enter Tryz.func142, Tryz.ntmps142
  go_wp2
  go_loopg [3, 4] n (fun gg s3 s4 wr => ∃ kk : Nat, 1 ≤ kk ∧ kk ≤ n ∧ n - kk ≤ gg ∧ s4 = .int .i64 kk ∧ s3 = .int .i64 ((l.take kk).foldl min x) ∧ Aside (Ext w wr))
  case atStart => exact ⟨1, by omega, by omega, by omega, rfl, by rw [HX1.out], Ext.refl w⟩
  case round =>
    obtain ⟨kk, h1, hkk, hg, rfl, rfl, BW⟩ := hrel
    by_cases hlt : kk < n
    · have hltz : (kk : Int) < (n : Int) := by omega
      obtain ⟨b', off', y, e1, hy, hb', hcell'⟩ := hs.at_ hlt
      injection e1 with e1
      injection e1 with e1 e2
      subst e1 e2
      have c1 := SlI.cell hcell' BW.out
      have HY := Lib.hid (foldl_snoc min x l kk y hy)
      clear hy hcell' hs
      generalize hm : (l.take kk).foldl min x = m at HY ⊢
      go_wp2
      go_roundg (n - (kk + 1))
      case measure => omega
      case rel => exact ⟨kk + 1, by omega, by omega, by omega, rfl, by rw [HY.out], BW.out⟩
    · have HE := Lib.hid (show kk = n by omega); clear hs
      go_wp2
      go_ret
      exact ⟨by rw [HX.out, HE.out, List.take_of_length_le (by have := hn.out; omega)]; rfl, BW.out⟩

set_option maxHeartbeats 400000 in
theorem f141_any (l : List Int) (v : Value) (w : World) (hs : SlI w v l) (h0 : 0 < l.length) :
    Calls Tryz.prog 141 #[v] w fun e w' => e = .returned (.int .i64 (maxs l)) ∧ Ext w w' := by
  obtain ⟨A, n, c, rfl, hn, hlc, hcm⟩ := hs.form
  have hn0 : 0 < n := by have := hn.out; omega
  obtain ⟨b, off, x, rfl, hx, hb, hcell⟩ := hs.at_ hn0
  have c0 := SlI.cell hcell (Ext.refl _)
  have HX := Lib.hid (show maxs l = l.foldl max x by unfold maxs; rw [hx]; rfl)
  have HX1 := Lib.hid (show (l.take 1).foldl max x = x by
    cases l with
    | nil => simp at h0
    | cons y l => simp at hx; subst hx; simp)
  have hnz : ¬ ((n : Int) < 1) := by omega
  have hn1 : (0 : Int) < (n : Int) := by omega
  clear h0 hcell hx
  simp only [Int.natCast_zero, Nat.add_zero] at c0
  go_enter Tryz.func141, Tryz.ntmps141
  go_wp2
  go_loopg [3, 4] n (fun gg s3 s4 wr => ∃ kk : Nat, 1 ≤ kk ∧ kk ≤ n ∧ n - kk ≤ gg ∧ s4 = .int .i64 kk ∧ s3 = .int .i64 ((l.take kk).foldl max x) ∧ Aside (Ext w wr))
  case atStart => exact ⟨1, by omega, by omega, by omega, rfl, by rw [HX1.out], Ext.refl w⟩
  case round =>
    obtain ⟨kk, h1, hkk, hg, rfl, rfl, BW⟩ := hrel
    by_cases hlt : kk < n
    · have hltz : (kk : Int) < (n : Int) := by omega
      obtain ⟨b', off', y, e1, hy, hb', hcell'⟩ := hs.at_ hlt
      injection e1 with e1
      injection e1 with e1 e2
      subst e1 e2
      have c1 := SlI.cell hcell' BW.out
      have HY := Lib.hid (foldl_snoc max x l kk y hy)
      clear hy hcell' hs
      generalize hm : (l.take kk).foldl max x = m at HY ⊢
      go_wp2
      go_roundg (n - (kk + 1))
      case measure => omega
      case rel => exact ⟨kk + 1, by omega, by omega, by omega, rfl, by rw [HY.out], BW.out⟩
    · have HE := Lib.hid (show kk = n by omega); clear hs
      go_wp2
      go_ret
      exact ⟨by rw [HX.out, HE.out, List.take_of_length_le (by have := hn.out; omega)]; rfl, BW.out⟩

theorem foldl_min_mem : ∀ (l : List Int) (x : Int), l.foldl min x = x ∨ l.foldl min x ∈ l
  | [], x => .inl rfl
  | y :: l, x => by
    rw [List.foldl_cons]
    rcases foldl_min_mem l (min x y) with h | h
    · rw [h]
      by_cases hxy : x ≤ y
      · left; omega
      · right; rw [show min x y = y by omega]; exact List.mem_cons_self ..
    · exact .inr (List.mem_cons_of_mem _ h)
theorem foldl_max_mem : ∀ (l : List Int) (x : Int), l.foldl max x = x ∨ l.foldl max x ∈ l
  | [], x => .inl rfl
  | y :: l, x => by
    rw [List.foldl_cons]
    rcases foldl_max_mem l (max x y) with h | h
    · rw [h]
      by_cases hxy : y ≤ x
      · left; omega
      · right; rw [show max x y = y by omega]; exact List.mem_cons_self ..
    · exact .inr (List.mem_cons_of_mem _ h)
theorem mins_mem {l : List Int} (h : 0 < l.length) : mins l ∈ l := by
  unfold mins
  rw [List.getElem?_eq_getElem h, Option.getD_some]
  rcases foldl_min_mem l l[0] with e | e
  · rw [e]; exact List.getElem_mem _
  · exact e
theorem maxs_mem {l : List Int} (h : 0 < l.length) : maxs l ∈ l := by
  unfold maxs
  rw [List.getElem?_eq_getElem h, Option.getD_some]
  rcases foldl_max_mem l l[0] with e | e
  · rw [e]; exact List.getElem_mem _
  · exact e
/-- Whether some grades are alike. -/
def alikeL (l : List Int) : Bool := decide (maxs l - mins l ≤ 1)
/-- Numbers that can be reckoned with. -/
def Small (l : List Int) : Prop := ∀ n ∈ l, -1000000 ≤ n ∧ n ≤ 1000000

set_option maxHeartbeats 400000 in
theorem alike_any (l : List Int) (v : Value) (w : World) (hs : SlI w v l) (h0 : 0 < l.length) (hb : Small l) :
    Calls Tryz.prog 158 #[v] w fun e w' => e = .returned (.bool (alikeL l)) ∧ Ext w w' := by
  have h1 := hb _ (mins_mem h0)
  have h2 := hb _ (maxs_mem h0)
  have HS := Lib.hid hs
  obtain ⟨A, n, c, rfl, hn, hlc, hcm⟩ := hs.form
  clear hs
  go_enter Tryz.func158, Tryz.ntmps158
  go_wp2_with fail
  refine (f141_any l _ _ HS.out h0).mono ?_
  rintro e w1 ⟨rfl, hE1⟩
  have HE1 := Lib.hid hE1; clear hE1
  go_wp2_with fail
  refine (f142_any l _ _ (HS.out.ext HE1.out) h0).mono ?_
  rintro e w2 ⟨rfl, hE2⟩
  have HE2 := Lib.hid (HE1.out.trans hE2); clear hE2
  go_wp2
  go_ret
  exact ⟨rfl, HE2.out⟩
theorem Sl.take {α : Type} {enc : α → List Value} {sz : Nat} {W : World} {A : Option Addr} {n c k c' : Nat} {l : List α} (h : Sl enc sz W (.slice A n c) l) (hk : k ≤ n) (h1 : k ≤ c') (h2 : c' ≤ maxLen) : Sl enc sz W (.slice A k c') (l.take k) := by
  obtain ⟨a', c'', hv, hl, hc, hcell⟩ := h
  injection hv with e1 e2 e3
  subst e1 e2 e3
  refine ⟨_, _, by rw [List.length_take, Nat.min_eq_left hk], by rw [List.length_take]; omega, h2, fun h0 => ?_⟩
  rw [List.length_take] at h0
  obtain ⟨b, off, hA, hb, hcell⟩ := hcell (by omega)
  refine ⟨b, off, hA, hb, fun i x hi j u hu => hcell i x ?_ j u hu⟩
  rw [List.getElem?_take] at hi
  split at hi
  · exact hi
  · cases hi
theorem Sl.drop {α : Type} {enc : α → List Value} {sz : Nat} {W : World} {b off n c k c' : Nat} {l : List α} (h : Sl enc sz W (.slice (some ⟨b, off, none⟩) n c) l) (h1 : n - k ≤ c') (h2 : c' ≤ maxLen) : Sl enc sz W (.slice (some ⟨b, off + k * sz, none⟩) (n - k) c') (l.drop k) := by
  obtain ⟨a', c'', hv, hl, hc, hcell⟩ := h
  injection hv with e1 e2 e3
  subst e1 e2 e3
  refine ⟨_, _, by rw [List.length_drop], by rw [List.length_drop]; exact h1, h2, fun h0 => ?_⟩
  rw [List.length_drop] at h0
  obtain ⟨b', off', hA, hb, hcell⟩ := hcell (by omega)
  injection hA with hA
  injection hA with e1 e2
  subst e1 e2
  refine ⟨b, off + k * sz, rfl, hb, fun i x hi j u hu => ?_⟩
  rw [List.getElem?_drop] at hi
  have := hcell (k + i) x hi j u hu
  rw [Nat.add_mul] at this
  rwa [show off + k * sz + i * sz + j = off + (k * sz + i * sz) + j by omega]
/-- All cuts below m. -/
def cutAt (l : List Int) (k : Nat) : Bool := decide (1 ≤ k) && (alikeL (l.take k) && alikeL (l.drop k))
def cutsTo (l : List Int) : Nat → List Int
  | 0 => []
  | m + 1 => cutsTo l m ++ (if cutAt l m then [(m : Int)] else [])
def cutsL (l : List Int) : List Int := if alikeL l then [] else cutsTo l l.length
theorem cutsTo_len (l : List Int) (m : Nat) : (cutsTo l m).length ≤ m := by
  induction m with
  | zero => simp [cutsTo]
  | succ m ih => rw [cutsTo, List.length_append]; split <;> simp <;> omega
theorem Small.take {l : List Int} (h : Small l) (k : Nat) : Small (l.take k) := fun n hn => h n (List.mem_of_mem_take hn)
theorem Small.drop {l : List Int} (h : Small l) (k : Nat) : Small (l.drop k) := fun n hn => h n (List.mem_of_mem_drop hn)

set_option maxHeartbeats 1000000 in
theorem cuts_any (l : List Int) (v : Value) (w : World) (hs : SlI w v l) (h0 : 0 < l.length) (hlen : l.length ≤ 1000) (hb : Small l) :
    Calls Tryz.prog 159 #[v] w fun e w' => ∃ v', e = .returned v' ∧ SlI w' v' (cutsL l) ∧ Ext w w' := by
  have HS := Lib.hid hs
  obtain ⟨A, n, c, rfl, hn, hlc, hcm⟩ := hs.form
  have hn0 : 0 < n := by have := hn.out; omega
  obtain ⟨b, off, x, rfl, -, -, -⟩ := hs.at_ hn0
  have hn1000 : n ≤ 1000 := by have := hn.out; omega
  have HB := Lib.hid hb; have H0 := Lib.hid h0
  clear hs hb h0 hlen
  have hcm' : c ≤ maxLen := hcm
  go_enter Tryz.func159, Tryz.ntmps159
  go_wp2
  cases hal : alikeL l with
  | true =>
    have HAL := Lib.hid hal
    clear hal
    go_loopg [3, 4] 1 (fun gg s3 s4 wr => s4 = .int .i64 1 ∧ s3 = .slice none 0 0 ∧ Aside (Ext w wr))
    case atStart => exact ⟨rfl, rfl, Ext.refl _⟩
    case round =>
      obtain ⟨rfl, rfl, BW⟩ := hrel
      have hfin : ∀ W, SlI W (.slice none 0 0) (cutsL l) := fun W => by unfold cutsL; rw [if_pos HAL.out]; exact Sl.nil W
      have HFI := Lib.hid hfin; clear hfin
      by_cases h1 : 1 < n
      · have h1z : (1 : Int) < (n : Int) := by omega
        go_wp2_with fail
        refine (alike_any l _ _ (HS.out.ext BW.out) H0.out HB.out).mono ?_
        rintro e w1 ⟨rfl, hE⟩
        rw [HAL.out]
        go_wp2
        go_ret
        exact ⟨_, rfl, HFI.out _, BW.out.trans hE⟩
      · have h1z : ¬ (1 : Int) < (n : Int) := by omega
        go_wp2
        go_ret
        exact ⟨_, rfl, HFI.out _, BW.out⟩
  | false =>
    have HAL := Lib.hid hal
    clear hal
    go_loopg [3, 4] n (fun gg s3 s4 wr => ∃ kk : Nat, 1 ≤ kk ∧ kk ≤ n ∧ n - kk ≤ gg ∧ s4 = .int .i64 kk ∧ Aside (Own encI 3 1 wr w.heap.size s3 (cutsTo l kk)) ∧ Aside (Ext w wr))
    case atStart => exact ⟨1, by omega, by omega, by omega, rfl, Own.nil _ _, Ext.refl _⟩
    case round =>
      obtain ⟨kk, h1, hkk, hg, rfl, OW, BW⟩ := hrel
      by_cases hlt : kk < n
      · have hltz : (kk : Int) < (n : Int) := by omega
        have hkz : (0 : Int) ≤ (kk : Int) := by omega
        have hkc : (kk : Int) ≤ (c : Int) := by omega
        have hnc : ¬ (c = kk) := by omega
        have T1 := Lib.hid (HS.out.take (k := kk) (c' := c) (by omega) (by omega) hcm')
        have T2 := Lib.hid (show SlI w (.slice (some ⟨b, off + kk, none⟩) (n - kk) (c - kk)) (l.drop kk) by simpa only [Nat.mul_one] using HS.out.drop (k := kk) (c' := c - kk) (by omega) (by omega))
        have L1 := Lib.hid (show 0 < (l.take kk).length by rw [List.length_take]; have := hn.out; omega)
        have L2 := Lib.hid (show 0 < (l.drop kk).length by rw [List.length_drop]; have := hn.out; omega)
        have HCU := Lib.hid (show cutAt l kk = (alikeL (l.take kk) && alikeL (l.drop kk)) by unfold cutAt; rw [decide_eq_true h1, Bool.true_and])
        go_wp2_with fail
        refine (alike_any l _ _ (HS.out.ext BW.out) H0.out HB.out).mono ?_
        rintro e w1 ⟨rfl, hE⟩
        rw [HAL.out]
        have E1 := Lib.hid (BW.out.trans hE)
        have O1 := Lib.hid (OW.out.ext hE)
        clear hE BW OW
        go_wp2_with fail
        refine (alike_any (l.take kk) _ _ (T1.out.ext E1.out) L1.out (HB.out.take kk)).mono ?_
        rintro e w2 ⟨rfl, hE⟩
        have E2 := Lib.hid (E1.out.trans hE)
        have O2 := Lib.hid (O1.out.ext hE)
        clear hE O1 E1
        cases ha1 : alikeL (l.take kk) with
        | false =>
          have HC1 := Lib.hid (show cutsTo l (kk + 1) = cutsTo l kk by rw [cutsTo, HCU.out, ha1]; simp)
          clear ha1
          go_wp2
          go_roundg (n - (kk + 1))
          case measure => omega
          case rel => exact ⟨kk + 1, by omega, by omega, by omega, rfl, by rw [HC1.out]; exact O2.out, E2.out⟩
        | true =>
          have HA1 := Lib.hid ha1
          clear ha1
          go_wp2_with fail
          refine (alike_any (l.drop kk) _ _ (T2.out.ext E2.out) L2.out (HB.out.drop kk)).mono ?_
          rintro e w3 ⟨rfl, hE⟩
          have E3 := Lib.hid (E2.out.trans hE)
          have O3 := Lib.hid (O2.out.ext hE)
          clear hE O2 E2
          cases ha2 : alikeL (l.drop kk) with
          | false =>
            have HC1 := Lib.hid (show cutsTo l (kk + 1) = cutsTo l kk by rw [cutsTo, HCU.out, HA1.out, ha2]; simp)
            clear ha2
            go_wp2
            go_roundg (n - (kk + 1))
            case measure => omega
            case rel => exact ⟨kk + 1, by omega, by omega, by omega, rfl, by rw [HC1.out]; exact O3.out, E3.out⟩
          | true =>
            have HC1 := Lib.hid (show cutsTo l (kk + 1) = cutsTo l kk ++ [(kk : Int)] by rw [cutsTo, HCU.out, HA1.out, ha2]; simp)
            have HCL := Lib.hid (cutsTo_len l kk)
            clear ha2
            go_wp2_with (at_builtin; refine wpList_app encI 36 3 1 _ 8 Tryz.underlying36 info3x rfl (by decide) (by decide) (fun _ => rfl) encI_one rfl (.tmp 26) (.tmp 28) rfl w.heap.size _ (cutsTo l kk) rfl (O3.out.alloc _) w3.heap.size 1 (kk : Int) rfl (cells1 (by simp [go_sem])) (by have := HCL.out; omega) (by have := E3.out.size; simp; omega) ?_)
            intro g cap w' hown hg2 hbel _
            have HO := Lib.hid hown; clear hown
            have HBE := Lib.hid (show Ext w w' from Below.trans (E3.out.alloc _) hbel); clear hbel
            go_wp2
            go_roundg (n - (kk + 1))
            case measure => omega
            case rel => exact ⟨kk + 1, by omega, by omega, by omega, rfl, by rw [HC1.out]; exact HO.out, HBE.out⟩
      · have HKE := Lib.hid (show cutsL l = cutsTo l kk by unfold cutsL; rw [HAL.out, show l.length = kk by have := hn.out; omega]; rfl)
        go_wp2
        go_ret
        exact ⟨_, rfl, by rw [HKE.out]; exact (show SlI wr u3 _ from Own.sl (fun _ => rfl) OW.out), BW.out⟩
end Go.Proofs.YtkpengeaolcjhaaGreatDoor
/- A region that draws its order, whatever its operations make: each operation by a predicate on its value; one walk in the order of the text serves every order. -/
namespace Go.Proofs.YtkpengeaolcjhaaGreatDoor
open Go.RowKit Go.Shelf

abbrev Facts := List (Option Tmp × (Value → World → Prop))
/-- What stands in an operation's temporary. -/
def atD (ρ : Operand → Value) : Option Tmp → Value
  | some d => ρ (.tmp d)
  | none => undef
/-- What is known of operation j. -/
def Fact (F : Facts) (ρ : Operand → Value) (W : World) (j : Nat) : Prop :=
  match F[j]? with
  | some (d, U) => U (atD ρ d) W
  | none => True
def isB (v : Value) (b : Bool) : Bool := match v with | .bool c => c == b | _ => false
/-- Whether a guarded operation runs. -/
def runs (F : Facts) (ρ : Operand → Value) : Option (Nat × Bool) → Bool
  | none => true
  | some (j, b) => match F[j]? with
    | some (some d, _) => isB (ρ (.tmp d)) b
    | _ => false
def notIn (ds : List (Option Tmp)) (t : Tmp) : Bool := ds.all fun d => d != some t
/-- The frame, but for the region's own temporaries. -/
def Same0 (ds : List (Option Tmp)) (a0 A : Act) : Prop := A.defers = a0.defers ∧ A.tmps.size = a0.tmps.size ∧ ∀ t, notIn ds t = true → A.eval (.tmp t) = a0.eval (.tmp t)

/-- o, in the frame A and the world W, gives a value and a world of which U holds. -/
def CR (C : World → Prop) (R : World → World → Prop) (W W' : World) : Prop := C W' ∧ R W W'
def CallPost (C : World → Prop) (R : World → World → Prop) (W : World) (U : Value → World → Prop) (e : Ending) (W' : World) : Prop := ∃ v, e = .returned v ∧ CR C R W W' ∧ U v W'
def IsL (l' l : List Value) : Prop := l = l'
/-- A value that is known. -/
def Is (v0 v : Value) : Prop := v = v0
def opPost (P : Program) (C : World → Prop) (R : World → World → Prop) (W : World) (U : Value → World → Prop) : Result Next → Prop
  | .ok (.value v) W' => CR C R W W' ∧ U v W'
  | .ok .skip W' => CR C R W W' ∧ U undef W'
  | .ok (.enter f args) W' => Calls P f args W' (CallPost C R W U)
  | _ => False
def opGives (P : Program) (C : World → Prop) (R : World → World → Prop) (o : Oper) (ρ : Operand → Value) (W : World) (U : Value → World → Prop) : Prop := opPost P C R W U ((execOp ρ o).run P W)

/-- The walk, in the order of the text. -/
def wpTame (P : Program) (C : World → Prop) (R : World → World → Prop) (ds : List (Option Tmp)) (a0 : Act) (Q : Act → World → Prop) (n : Nat) : List Oper → Facts → Prop
  | [], F => ∀ A W, C W → Same0 ds a0 A → (∀ j, j < n → Fact F A.eval W j) → Q A W
  | o :: rest, F => ∃ U : Value → World → Prop, (∀ v W W', C W' → R W W' → U v W → U v W') ∧
      (∀ A W, C W → Same0 ds a0 A → (∀ e ∈ o.after, Region.binds .any e = true → Fact F A.eval W e.on) → if runs F A.eval o.guard then opGives P C R o A.eval W (fun v => U (if o.dst.isSome then v else undef)) else U undef W) ∧
      wpTame P C R ds a0 Q n rest (F ++ [(o.dst, U)])

/-- The region is of the common form: each operation looks back, no temporary is written twice. -/
def tameB (l : List Oper) (size : Nat) : Bool :=
  l.zipIdx.all (fun (o, i) => o.after.toList.all (fun e => !Region.binds .any e || decide (e.on < i)) && (match o.dst with | some d => decide (d < size) | none => true) && (match o.guard with | some (j, _) => decide (j < i) && o.after.toList.any (fun e => e.on == j && Region.binds .any e) | none => true)) &&
  l.zipIdx.all (fun (o, i) => match o.dst with | none => true | some d => l.zipIdx.all (fun (p, j) => i == j || p.dst != some d))

theorem wpTame_facts {P : Program} {C : World → Prop} {R : World → World → Prop} {ds : List (Option Tmp)} {a0 : Act} {Q : Act → World → Prop} {n : Nat} : ∀ (l : List Oper) (F : Facts), wpTame P C R ds a0 Q n l F →
    ∃ G : Facts, G.length = F.length + l.length ∧ (∀ j, j < F.length → G[j]? = F[j]?) ∧ (∀ A W, C W → Same0 ds a0 A → (∀ j, j < n → Fact G A.eval W j) → Q A W) ∧
      ∀ i o, l[i]? = some o → ∃ U, G[F.length + i]? = some (o.dst, U) ∧ (∀ v W W', C W' → R W W' → U v W → U v W') ∧
        (∀ A W, C W → Same0 ds a0 A → (∀ e ∈ o.after, Region.binds .any e = true → Fact (G.take (F.length + i)) A.eval W e.on) → if runs (G.take (F.length + i)) A.eval o.guard then opGives P C R o A.eval W (fun v => U (if o.dst.isSome then v else undef)) else U undef W)
  | [], F, h => ⟨F, by simp, fun _ _ => rfl, h, fun i o hi => by simp at hi⟩
  | o :: rest, F, h => by
    obtain ⟨U, hst, hstep, hrest⟩ := h
    obtain ⟨G, hlen, hpre, hfin, hops⟩ := wpTame_facts rest (F ++ [(o.dst, U)]) hrest
    have hF : G.take F.length = F := by
      apply List.ext_getElem?
      intro j
      rw [List.getElem?_take]
      by_cases hj : j < F.length
      · rw [if_pos hj, hpre j (by simp; omega), List.getElem?_append_left hj]
      · rw [if_neg hj, List.getElem?_eq_none (by omega)]
    refine ⟨G, by rw [hlen]; simp; omega, fun j hj => by rw [hpre j (by simp; omega), List.getElem?_append_left hj], hfin, fun i o' hi => ?_⟩
    cases i with
    | zero =>
      simp at hi; subst hi
      refine ⟨U, ?_, hst, ?_⟩
      · rw [Nat.add_zero, hpre F.length (by simp)]; simp
      · rw [Nat.add_zero, hF]; exact hstep
    | succ i =>
      obtain ⟨U', h1, h2, h3⟩ := hops i o' (by simpa using hi)
      have e : (F ++ [(o.dst, U)]).length + i = F.length + (i + 1) := by simp; omega
      rw [e] at h1 h3
      exact ⟨U', h1, h2, h3⟩

theorem yielded_isB {ops : Array Oper} {A : Act} {j : Nat} {o : Oper} {d : Tmp} (ho : ops[j]? = some o) (hd : o.dst = some d) (b : Bool) : (yielded ops A.tmps j == some b) = isB (A.eval (.tmp d)) b := by
  unfold yielded
  simp only [ho, Option.bind_some, hd, Act.eval]
  cases hx : A.tmps[d]? with
  | none => simp [Array.getD_eq_getD_getElem?, hx]; rfl
  | some v => simp only [Array.getD_eq_getD_getElem?, hx, Option.getD_some]; cases v <;> simp [isB]

theorem eval_put_self {A : Act} {d : Tmp} {v : Value} (h : d < A.tmps.size) : (A.put (some d) v).eval (.tmp d) = v := by
  simp [Act.put, Act.eval, h]
theorem eval_put_ne {A : Act} {d t : Tmp} {v : Value} (h : d ≠ t) : (A.put (some d) v).eval (.tmp t) = A.eval (.tmp t) := by
  simp only [Act.put, Act.eval, Array.getD_eq_getD_getElem?]
  rw [Array.getElem?_setIfInBounds_ne h]
theorem same0_put {ds : List (Option Tmp)} {a0 A : Act} {o : Option Tmp} (h : Same0 ds a0 A) (ho : o ∈ ds) (v : Value) : Same0 ds a0 (A.put o v) := by
  obtain ⟨h1, h2, h3⟩ := h
  cases o with
  | none => exact ⟨h1, h2, h3⟩
  | some d =>
    refine ⟨h1, by simpa [Act.put] using h2, fun t ht => ?_⟩
    have hne : d ≠ t := by
      unfold notIn at ht
      rw [List.all_eq_true] at ht
      have := ht _ ho
      simpa using this
    rw [eval_put_ne hne]; exact h3 t ht

section
variable {P : Program} {C : World → Prop} {R : World → World → Prop} {a0 : Act} {l : List Oper}

theorem tame_any {Q : Exit → Act → World → Prop} {Qn : Act → World → Prop} (hQ : ∀ A W, Qn A W → Q .normal A W) (hB : tameB l a0.tmps.size = true) (G : Facts) (hlen : G.length = l.length)
    (hfin : ∀ A W, C W → Same0 (l.map (·.dst)) a0 A → (∀ j, j < l.length → Fact G A.eval W j) → Qn A W)
    (hops : ∀ i o, l[i]? = some o → ∃ U, G[i]? = some (o.dst, U) ∧ (∀ v W W', C W' → R W W' → U v W → U v W') ∧
        (∀ A W, C W → Same0 (l.map (·.dst)) a0 A → (∀ e ∈ o.after, Region.binds .any e = true → Fact (G.take i) A.eval W e.on) → if runs (G.take i) A.eval o.guard then opGives P C R o A.eval W (fun v => U (if o.dst.isSome then v else undef)) else U undef W)) :
    ∀ (fuel : Nat) (listed : Array Bool) (A : Act) (W : World), listed.size = l.length → ((List.range l.length).filter fun j => !listed.getD j true).length ≤ fuel → C W → Same0 (l.map (·.dst)) a0 A →
      (∀ j, listed.getD j false = true → Fact G A.eval W j) → wpAny P .any l.toArray Q fuel listed A W := by
  have hB' := hB
  unfold tameB at hB'
  rw [Bool.and_eq_true, List.all_eq_true, List.all_eq_true] at hB'
  obtain ⟨hb1, hb2⟩ := hB'
  have hback : ∀ (i : Nat) (o : Oper), l[i]? = some o → (∀ e ∈ o.after, Region.binds .any e = true → e.on < i) ∧ (∀ d, o.dst = some d → d < a0.tmps.size) ∧ (∀ (j : Nat) (b : Bool), o.guard = some (j, b) → j < i ∧ ∃ e ∈ o.after, e.on = j ∧ Region.binds .any e = true) := by
    intro i o hi
    have h := hb1 (o, i) (by rw [List.mem_zipIdx_iff_getElem?]; simpa using hi)
    simp only [Bool.and_eq_true] at h
    obtain ⟨⟨h1, h2⟩, h3⟩ := h
    refine ⟨fun e he hbd => ?_, fun d hd => ?_, fun j b hg => ?_⟩
    · rw [List.all_eq_true] at h1
      have := h1 e (Array.mem_toList_iff.2 he)
      simpa [hbd] using this
    · rw [hd] at h2; simpa using h2
    · rw [hg] at h3
      simp only [Bool.and_eq_true, decide_eq_true_eq] at h3
      refine ⟨h3.1, ?_⟩
      obtain ⟨_, h3⟩ := h3
      rw [List.any_eq_true] at h3
      obtain ⟨e, he, h4⟩ := h3
      exact ⟨e, Array.mem_toList_iff.1 he, by simpa using h4⟩
  have hdist : ∀ (i j : Nat) (o p : Oper) (d : Tmp), l[i]? = some o → l[j]? = some p → o.dst = some d → i ≠ j → p.dst ≠ some d := by
    intro i j o p d hi hj hd hne
    have h := hb2 (o, i) (by rw [List.mem_zipIdx_iff_getElem?]; simpa using hi)
    simp only [hd] at h
    rw [List.all_eq_true] at h
    have := h (p, j) (by rw [List.mem_zipIdx_iff_getElem?]; simpa using hj)
    simpa [hne] using this
  have hall : ∀ (listed : Array Bool) (A : Act) (W : World), listed.size = l.length → C W → Same0 (l.map (·.dst)) a0 A → (∀ j, listed.getD j false = true → Fact G A.eval W j) → Region.ready .any l.toArray listed = [] → Q .normal A W := by
    intro listed A W hs hC hS hF hr
    refine hQ _ _ (hfin A W hC hS fun j hj => hF j ?_)
    -- the least one that is not listed would be ready
    have key : ∀ k, k < l.length → listed.getD k false = true := by
      intro k
      induction k using Nat.strongRecOn with
      | _ k ih =>
        intro hk
        cases hv : listed.getD k false with
        | true => rfl
        | false =>
          exfalso
          have hmem : k ∈ Region.ready .any l.toArray listed := by
            rw [mem_ready]
            have hkl : k < listed.size := by omega
            refine ⟨by simpa [Array.getD_eq_getD_getElem?, hkl] using hv, l[k], by simp, fun e he hb => ?_⟩
            have := (hback k _ (List.getElem?_eq_getElem hk)).1 e he hb
            exact ih e.on this (by omega)
          rw [hr] at hmem
          cases hmem
    exact key j hj
  intro fuel
  induction fuel with
  | zero =>
    intro listed A W hs hcount hC hS hF
    have hr : Region.ready .any l.toArray listed = [] := by
      rw [List.eq_nil_iff_forall_not_mem]
      intro k hk
      rw [mem_ready] at hk
      obtain ⟨h0, o, ho, _⟩ := hk
      have hkl : k < l.length := by simpa using (Array.getElem?_eq_some_iff.1 ho).1
      have : k ∈ (List.range l.length).filter fun j => !listed.getD j true := by simp [hkl]; simpa using h0
      have := List.length_pos_of_mem this
      omega
    exact ⟨hr, hall listed A W hs hC hS hF hr⟩
  | succ fuel ih =>
    intro listed A W hs hcount hC hS hF
    refine ⟨hall listed A W hs hC hS hF, fun i hi => ?_⟩
    rw [mem_ready] at hi
    obtain ⟨h0, o, ho, hdeps⟩ := hi
    have hil : i < l.length := by simpa using (Array.getElem?_eq_some_iff.1 ho).1
    have hlo : l[i]? = some o := by simpa using ho
    obtain ⟨U, hU, hst, hstep⟩ := hops i o hlo
    obtain ⟨hb, hdb, hgb⟩ := hback i o hlo
    have htake : ∀ j, j < i → Fact (G.take i) A.eval W j = Fact G A.eval W j := fun j hj => by
      unfold Fact; rw [List.getElem?_take, if_pos hj]
    have hstep' := hstep A W hC hS (fun e he hbd => by rw [htake e.on (hb e he hbd)]; exact hF e.on (hdeps e he hbd))
    have hrun : Region.wanted o (yielded l.toArray A.tmps) = runs (G.take i) A.eval o.guard := by
      unfold Region.wanted runs
      cases hg : o.guard with
      | none => rfl
      | some jb =>
        obtain ⟨j, b⟩ := jb
        obtain ⟨hj, _⟩ := hgb j b hg
        have hjl : j < l.length := by omega
        obtain ⟨Uj, hUj, _⟩ := hops j l[j] (List.getElem?_eq_getElem hjl)
        simp only [List.getElem?_take, if_pos hj, hUj]
        cases hd : (l[j]).dst with
        | none =>
          simp only [yielded]
          simp [List.getElem?_eq_getElem hjl, hd]
        | some d => exact yielded_isB (by simp) hd b
    -- what stands behind the operation
    have hnext : ∀ (v : Value) (W' : World), C W' → (∀ j d V, G[j]? = some (d, V) → listed.getD j false = true → ∀ u, V u W → V u W') → U (if o.dst.isSome then v else undef) W' →
        wpAny P .any l.toArray Q fuel (listed.setIfInBounds i true) (A.put o.dst v) W' := by
      intro v W' hC' hkeep hUv
      refine ih _ _ _ (by simpa using hs) ?_ hC' (same0_put hS (by rw [List.mem_map]; exact ⟨o, List.mem_of_getElem? hlo, rfl⟩) v) ?_
      · have hsub : ((List.range l.length).filter fun j => !(listed.setIfInBounds i true).getD j true).length < ((List.range l.length).filter fun j => !listed.getD j true).length := by
          have h1 : (List.range l.length).filter (fun j => !(listed.setIfInBounds i true).getD j true) = ((List.range l.length).filter fun j => !listed.getD j true).filter (fun j => j != i) := by
            rw [List.filter_filter]
            refine List.filter_congr fun j hj => ?_
            by_cases hji : j = i
            · subst hji
              simp [Array.getD_eq_getD_getElem?, show j < listed.size by omega]
            · rw [getD_set_ne true (Ne.symm hji)]; simp [hji]
          rw [h1]
          have hmem : i ∈ (List.range l.length).filter fun j => !listed.getD j true := by simp [hil]; simpa using h0
          refine Nat.lt_of_le_of_ne (List.length_filter_le _ _) fun he => ?_
          have := (List.length_filter_eq_length_iff.1 he) i hmem
          simp at this
        omega
      · intro j hj
        by_cases hji : j = i
        · subst hji
          unfold Fact
          rw [hU]
          cases hd : o.dst with
          | none => simpa [hd, atD] using hUv
          | some d =>
            have hsz : d < A.tmps.size := by rw [hS.2.1]; exact hdb d hd
            simp only [atD, eval_put_self hsz]
            simpa [hd] using hUv
        · rw [getD_set_ne false (Ne.symm hji)] at hj
          have hFj := hF j hj
          unfold Fact at hFj ⊢
          cases hGj : G[j]? with
          | none => trivial
          | some dV =>
            obtain ⟨d, V⟩ := dV
            rw [hGj] at hFj
            have hval : atD (A.put o.dst v).eval d = atD A.eval d := by
              cases d with
              | none => rfl
              | some d =>
                cases hdo : o.dst with
                | none => rfl
                | some d' =>
                  simp only [atD]
                  refine eval_put_ne fun he => ?_
                  have hjl : j < l.length := by rw [← hlen]; exact (List.getElem?_eq_some_iff.1 hGj).1
                  obtain ⟨Uj, hUj, _⟩ := hops j l[j] (List.getElem?_eq_getElem hjl)
                  rw [hGj] at hUj
                  injection hUj with hUj
                  have hdj : (l[j]).dst = some d := (Prod.mk.inj hUj).1.symm
                  exact hdist i j o _ d' hlo (List.getElem?_eq_getElem hjl) hdo (Ne.symm hji) (by rw [hdj, he])
            show V (atD (A.put o.dst v).eval d) W'
            rw [hval]
            exact hkeep j d V hGj hj _ hFj
    have hstab : ∀ W', C W' → R W W' → ∀ j d V, G[j]? = some (d, V) → listed.getD j false = true → ∀ u, V u W → V u W' := by
      intro W' hC' hR j d V hGj hj u hu
      have hjl : j < l.length := by rw [← hlen]; exact (List.getElem?_eq_some_iff.1 hGj).1
      obtain ⟨Uj, hUj, hstj, _⟩ := hops j l[j] (List.getElem?_eq_getElem hjl)
      rw [hGj] at hUj
      injection hUj with hUj
      have hV : V = Uj := (Prod.mk.inj hUj).2
      subst hV
      exact hstj u W W' hC' hR hu
    unfold wpOp
    simp only [ho]
    rw [hrun]
    cases hw : runs (G.take i) A.eval o.guard with
    | false =>
      rw [hw] at hstep'
      simp only [Bool.false_eq_true, if_false] at hstep' ⊢
      exact hnext undef W hC (fun _ _ _ _ _ _ h => h) (by cases hds : o.dst.isSome <;> simpa using hstep')
    | true =>
      rw [hw] at hstep'
      simp only [if_true] at hstep' ⊢
      left
      unfold Oper.wp
      unfold opGives opPost at hstep'
      generalize (execOp A.eval o).run P W = r at hstep'
      cases r with
      | halt x w' => exact hstep'.elim
      | ok nx w' =>
        cases nx with
        | value v => obtain ⟨⟨h1, h2⟩, h3⟩ := hstep'; exact hnext v w' h1 (hstab w' h1 h2) h3
        | skip => obtain ⟨⟨h1, h2⟩, h3⟩ := hstep'; exact hnext undef w' h1 (hstab w' h1 h2) (by cases hds : o.dst.isSome <;> simpa [hds] using h3)
        | enter f args =>
          refine Calls.mono (R' := _) hstep' ?_
          rintro e w'' ⟨v, rfl, ⟨h1, h2⟩, h3⟩
          exact hnext v w'' h1 (hstab w'' h1 h2) h3
        | _ => exact hstep'.elim

/-- **ONE WALK IN THE ORDER OF THE TEXT SERVES EVERY ORDER.** -/
theorem wp_region_tame {id : Nat} {Q : Exit → Act → World → Prop} {w : World} (C : World → Prop) (R : World → World → Prop) (hm : P.follows .mixedOrders = true) (n : Nat) (hn : a0.tmps.size = n) (hB : tameB l n = true) (hC : C w.drew)
    (h : wpTame P C R (l.map (·.dst)) a0 (fun A W => Q .normal A W) l.length l []) : (Code.region id l.toArray true).wp P Q a0 w := by
  subst hn
  obtain ⟨G, hlen, _, hfin, hops⟩ := wpTame_facts l [] h
  refine wp_region_any hm (tame_any (Q := Q) (Qn := fun A W => Q .normal A W) (fun _ _ h => h) hB G (by simpa using hlen) hfin (by simpa using hops) _ _ _ _ (by simp) ?_ hC ⟨rfl, rfl, fun _ _ => rfl⟩ ?_)
  · refine Nat.le_trans (List.length_filter_le _ _) (by simp)
  · intro j hj
    have : (Array.replicate l.toArray.size false).getD j false = false := by
      rw [Array.getD_eq_getD_getElem?, Array.getElem?_replicate]; split <;> rfl
    rw [this] at hj
    cases hj

/-! What a step is shown in: any reading of the operands that knows what stands outside the region, and what was made ahead. -/
structure Rd (a0 : Act) (ds : List (Option Tmp)) (ρ : Operand → Value) : Prop where
  c : ∀ v, ρ (.const v) = v
  g : ∀ g, ρ (.global g) = .pointer (some ⟨g, 0, none⟩)
  f : ∀ f, ρ (.func f) = .func (.func f) #[] #[]
  s : ∀ t, notIn ds t = true → ρ (.tmp t) = a0.eval (.tmp t)
theorem Rd.of {ds : List (Option Tmp)} {A : Act} (h : Same0 ds a0 A) : Rd a0 ds A.eval := ⟨fun _ => rfl, fun _ => rfl, fun _ => rfl, h.2.2⟩

variable {ds : List (Option Tmp)} {Q : Act → World → Prop} {n : Nat} {o : Oper} {rest : List Oper} {F : Facts}
theorem tame_n (U : Value → World → Prop) (hst : ∀ v W W', C W' → R W W' → U v W → U v W')
    (hstep : ∀ ρ W, C W → Rd a0 ds ρ → (∀ e ∈ o.after, Region.binds .any e = true → Fact F ρ W e.on) → if runs F ρ o.guard then opGives P C R o ρ W (fun v => U (if o.dst.isSome then v else undef)) else U undef W)
    (h : wpTame P C R ds a0 Q n rest (F ++ [(o.dst, U)])) : wpTame P C R ds a0 Q n (o :: rest) F :=
  ⟨U, hst, fun A W hC hS hD => hstep A.eval W hC (Rd.of hS) hD, h⟩
theorem tame_q {d : Tmp} (hd : o.dst = some d) (v0 : Value)
    (hstep : ∀ ρ W, C W → Rd a0 ds ρ → (∀ e ∈ o.after, Region.binds .any e = true → Fact F ρ W e.on) → if runs F ρ o.guard then opGives P C R o ρ W (fun v _ => Is v0 v) else Is v0 undef)
    (h : wpTame P C R ds a0 Q n rest (F ++ [(some d, fun v _ => v = v0)])) : wpTame P C R ds a0 Q n (o :: rest) F := by
  refine tame_n (fun v _ => Is v0 v) (fun _ _ _ _ _ h => h) ?_ (hd ▸ h)
  intro ρ W hC hr hD
  have := hstep ρ W hC hr hD
  rw [hd]
  exact this
theorem tame_v {d : Tmp} (hd : o.dst = some d) (U : Value → World → Prop) (hst : ∀ v W W', C W' → R W W' → U v W → U v W')
    (hstep : ∀ ρ W, C W → Rd a0 ds ρ → (∀ e ∈ o.after, Region.binds .any e = true → Fact F ρ W e.on) → if runs F ρ o.guard then opGives P C R o ρ W U else U undef W)
    (h : wpTame P C R ds a0 Q n rest (F ++ [(some d, U)])) : wpTame P C R ds a0 Q n (o :: rest) F := by
  refine tame_n U hst ?_ (hd ▸ h)
  intro ρ W hC hr hD
  have := hstep ρ W hC hr hD
  rw [hd]
  exact this

/-- The frame, slot by slot. -/
def evs (ρ : Operand → Value) : Nat → Nat → List Value
  | _, 0 => []
  | s, k + 1 => ρ (.tmp s) :: evs ρ (s + 1) k
theorem evs_get (ρ : Operand → Value) : ∀ (k s j : Nat), j < k → (evs ρ s k)[j]? = some (ρ (.tmp (s + j)))
  | k + 1, s, 0, _ => rfl
  | k + 1, s, j + 1, h => by
    rw [evs, List.getElem?_cons_succ, evs_get ρ k (s + 1) j (by omega), show s + 1 + j = s + (j + 1) from by omega]
theorem evs_len (ρ : Operand → Value) : ∀ (k s : Nat), (evs ρ s k).length = k
  | 0, _ => rfl
  | k + 1, s => by rw [evs, List.length_cons, evs_len]
theorem frame_lit {A : Act} {m : Nat} (h : A.tmps.size = m) : A = { tmps := (evs A.eval 0 m).toArray, defers := A.defers } := by
  obtain ⟨tmps, defers⟩ := A
  congr 1
  apply Array.ext_getElem?
  intro j
  by_cases hj : j < m
  · have hj' : j < tmps.size := by simpa using h ▸ hj
    have h2 : (evs (Act.eval { tmps, defers }) 0 m).toArray[j]? = some (Act.eval { tmps, defers } (.tmp (0 + j))) := by rw [List.getElem?_toArray]; exact evs_get _ m 0 j hj
    rw [h2, Nat.zero_add]
    simp [Act.eval, hj']
  · have h1 : tmps.size ≤ j := by have : tmps.size = m := h; omega
    rw [Array.getElem?_eq_none h1, List.getElem?_toArray, List.getElem?_eq_none (by rw [evs_len]; omega)]
def allF : Facts → (Operand → Value) → World → Prop
  | [], _, _ => True
  | (d, U) :: F, ρ, W => U (atD ρ d) W ∧ allF F ρ W
theorem allF_of : ∀ (F : Facts) (ρ : Operand → Value) (W : World), (∀ j, j < F.length → Fact F ρ W j) → allF F ρ W
  | [], _, _, _ => trivial
  | (d, U) :: F, ρ, W, h => ⟨h 0 (by simp), allF_of F ρ W fun j hj => h (j + 1) (by simpa using hj)⟩
theorem tame_end (m : Nat) (hm : a0.tmps.size = m) (hn : n = F.length) (h : ∀ ρ W, C W → Rd a0 ds ρ → allF F ρ W → Q { tmps := (evs ρ 0 m).toArray, defers := a0.defers } W) : wpTame P C R ds a0 Q n [] F := by
  intro A W hC hS hF
  rw [frame_lit (A := A) (m := m) (by rw [hS.2.1, hm]), hS.1]
  exact h A.eval W hC (Rd.of hS) (allF_of _ _ _ (hn ▸ hF))
theorem frame_to {l l' : List Value} {dfs : List Deferred} {W : World} (hl : IsL l' l) (h : Q { tmps := l'.toArray, defers := dfs } W) : Q { tmps := l.toArray, defers := dfs } W := by
  unfold IsL at hl; rw [hl]; exact h
end
attribute [go_sem] evs allF
attribute [go_sem] Fact atD runs isB notIn opGives opPost Region.binds
@[go_sem ↓] theorem execOp_call_fn (ρ : Operand → Value) (h : ∀ f, ρ (.func f) = .func (.func f) #[] #[]) (dst : Option Tmp) (f : FuncId) (xs : Array Operand) (ats : Array TypeId) (ty : TypeId) (pos : String) (after : Array Edge) (guard : Option (Nat × Bool)) :
    execOp ρ { dst, op := .call { callee := .value (.func f), args := xs, argTypes := ats }, type := ty, pos, after, guard } = callFunc f (xs.map ρ) := by
  simp only [execOp, resolve, Deferred.ofValue, h]
  show callFunc f (#[] ++ xs.map ρ ++ #[]) = _
  simp

/-! A region that stores, last, into a block of the call's own. -/
def CS (w : World) (g : Nat) (t : TypeId) (k : Nat) (W : World) : Prop := w.grownBy W (some g) ∧ ∃ cs, Blk W g t cs ∧ cs.size = k
def RS (g : Nat) (t : TypeId) (fin : Array Value) (W W' : World) : Prop := W.grownBy W' (some g) ∧ (Blk W g t fin → Blk W' g t fin)
theorem RS.refl {g : Nat} {t : TypeId} {fin : Array Value} (W : World) : RS g t fin W W := ⟨World.grownBy.refl _ _, fun h => h⟩
theorem RS.ext {g : Nat} {t : TypeId} {fin : Array Value} {W W' : World} (h : Ext W W') : RS g t fin W W' := ⟨⟨h.os, h.tape, h.output, h.size, fun i hi _ => h.block i hi⟩, fun hB => hB.ext h⟩
theorem CS.ext {w : World} {g : Nat} {t : TypeId} {k : Nat} {W W' : World} (hC : CS w g t k W) (h : Ext W W') : CS w g t k W' := by
  obtain ⟨h1, cs, h2, h3⟩ := hC
  exact ⟨grown_ext h1 h, cs, h2.ext h, h3⟩
theorem CS.start {w : World} {g : Nat} {t : TypeId} {cs : Array Value} (h : Blk w g t cs) : CS w g t cs.size w.drew := ⟨⟨rfl, rfl, rfl, Nat.le_refl _, fun _ _ _ => rfl⟩, cs, h, rfl⟩
theorem CS.cell {w : World} {g : Nat} {t : TypeId} {k : Nat} {W : World} (hC : CS w g t k W) {b : Nat} (hb : b < w.heap.size) (hne : b ≠ g) (i : Nat) : W.cell? ⟨b, i, none⟩ = w.cell? ⟨b, i, none⟩ :=
  World.cell?_of_block (a := ⟨b, i, none⟩) (hC.1.block b hb (by intro h; injection h with h; exact hne h))
/-- A row of eight cells is written over, cell by cell. -/
abbrev set8 (W : World) (g : Nat) (y0 y1 y2 y3 y4 y5 y6 y7 : Value) : World :=
  (((((((W.setCell ⟨g, 0, none⟩ y0).setCell ⟨g, 1, none⟩ y1).setCell ⟨g, 2, none⟩ y2).setCell ⟨g, 3, none⟩ y3).setCell ⟨g, 4, none⟩ y4).setCell ⟨g, 5, none⟩ y5).setCell ⟨g, 6, none⟩ y6).setCell ⟨g, 7, none⟩ y7
theorem Blk.set8 {W : World} {g : Nat} {t : TypeId} {x0 x1 x2 x3 x4 x5 x6 x7 : Value} (h : Blk W g t #[x0, x1, x2, x3, x4, x5, x6, x7]) (y0 y1 y2 y3 y4 y5 y6 y7 : Value) :
    Blk (set8 W g y0 y1 y2 y3 y4 y5 y6 y7) g t #[y0, y1, y2, y3, y4, y5, y6, y7] := by
  have := (((((((h.set_ 0 y0).set_ 1 y1).set_ 2 y2).set_ 3 y3).set_ 4 y4).set_ 5 y5).set_ 6 y6).set_ 7 y7
  simpa using this
theorem grown_set8 {a W : World} {g : Nat} (h : a.grownBy W (some g)) (y0 y1 y2 y3 y4 y5 y6 y7 : Value) : a.grownBy (set8 W g y0 y1 y2 y3 y4 y5 y6 y7) (some g) :=
  grown_set (grown_set (grown_set (grown_set (grown_set (grown_set (grown_set (grown_set h (p := ⟨g, 0, none⟩) (.inl rfl) y0) (p := ⟨g, 1, none⟩) (.inl rfl) y1) (p := ⟨g, 2, none⟩) (.inl rfl) y2) (p := ⟨g, 3, none⟩) (.inl rfl) y3) (p := ⟨g, 4, none⟩) (.inl rfl) y4) (p := ⟨g, 5, none⟩) (.inl rfl) y5) (p := ⟨g, 6, none⟩) (.inl rfl) y6) (p := ⟨g, 7, none⟩) (.inl rfl) y7
theorem store8 {wr W : World} {g : Nat} {t : TypeId} {x0 x1 x2 x3 x4 x5 x6 x7 : Value} (hg : wr.grownBy W (some g)) (h : Blk W g t #[x0, x1, x2, x3, x4, x5, x6, x7]) (y0 y1 y2 y3 y4 y5 y6 y7 : Value) :
    CR (fun W => CS wr g t 8 W) (fun W W' => RS g t #[y0, y1, y2, y3, y4, y5, y6, y7] W W') W (set8 W g y0 y1 y2 y3 y4 y5 y6 y7) ∧ Blk (set8 W g y0 y1 y2 y3 y4 y5 y6 y7) g t #[y0, y1, y2, y3, y4, y5, y6, y7] :=
  ⟨⟨⟨grown_set8 hg .., _, h.set8 .., rfl⟩, grown_set8 (World.grownBy.refl _ _) .., fun _ => h.set8 ..⟩, h.set8 ..⟩
/- The run of operations that only reckon or read, in a region that draws its order. -/

end Go.Proofs.YtkpengeaolcjhaaGreatDoor
/- A region that draws its order and whose last operation stands behind all others: that one is walked by itself, when the others are done. -/
namespace Go.Proofs.YtkpengeaolcjhaaGreatDoor
open Go.RowKit Go.Shelf

def lastQ (P : Program) (oL : Oper) (Q : Exit → Act → World → Prop) : Exit → Act → World → Prop := fun x A W =>
  match x with
  | .normal => oL.wp P A W (fun A' W' => Q .normal A' W') Q ∨ (oL.asks P A W ∧ LetsOut Q)
  | x => Q x A W
/-- Every operation but the last has one behind it. -/
def lastB (l : List Oper) : Bool :=
  (List.range (l.length - 1)).all fun j => l.zipIdx.any fun (o, k) => decide (j < k) && o.after.toList.any (fun e => e.on == j && Region.binds .any e)

section
variable {P : Program} {l : List Oper} {oL : Oper} {Q : Exit → Act → World → Prop}
theorem wp_lastQ {o : Oper} {a : Act} {w : World} {K : Act → World → Prop} (hh : o.wp P a w K (lastQ P oL Q)) : o.wp P a w K Q := by
  unfold Oper.wp at *
  generalize (execOp a.eval o).run P w = r at *
  cases r with
  | ok n w' =>
    cases n <;> simp only [Oper.upon] at hh ⊢ <;>
      first
        | exact hh
        | exact Calls.mono hh (fun e w'' he => by cases e <;> exact he)
  | halt x w' => cases x <;> simp only [Oper.upon] at hh ⊢ <;> exact hh

theorem push_old {listed : Array Bool} {j : Nat} (hj : j < listed.size) (b : Bool) : (listed.push false).getD j b = listed.getD j b := by
  simp [Array.getD_eq_getD_getElem?, Array.getElem?_push, hj, Nat.ne_of_lt hj]

theorem tame_lastL (hback : ∀ (i : Nat) (o : Oper), (l ++ [oL])[i]? = some o → (∀ e ∈ o.after, Region.binds .any e = true → e.on < i) ∧ ∀ (j : Nat) (b : Bool), o.guard = some (j, b) → j < i) (hL : lastB (l ++ [oL]) = true) (hgL : oL.guard = none) :
    ∀ (fuel : Nat) (listed : Array Bool) (A : Act) (W : World), listed.size = l.length →
      (∀ j o, l[j]? = some o → listed.getD j false = true → ∀ e ∈ o.after, Region.binds .any e = true → listed.getD e.on false = true) →
      wpAny P .any l.toArray (lastQ P oL Q) fuel listed A W → wpAny P .any (l ++ [oL]).toArray Q (fuel + 1) (listed.push false) A W := by
  have hchain : ∀ j, j < l.length → ∃ k o, (l ++ [oL])[k]? = some o ∧ j < k ∧ ∃ e ∈ o.after, e.on = j ∧ Region.binds .any e = true := by
    intro j hj
    unfold lastB at hL
    rw [List.all_eq_true] at hL
    have h := hL j (by simp; exact hj)
    rw [List.any_eq_true] at h
    obtain ⟨⟨o, k⟩, hm, h⟩ := h
    rw [List.mem_zipIdx_iff_getElem?] at hm
    simp only [Bool.and_eq_true, decide_eq_true_eq, List.any_eq_true, beq_iff_eq] at h
    obtain ⟨h1, e, he, h2, h3⟩ := h
    exact ⟨k, o, by simpa using hm, h1, e, Array.mem_toList_iff.1 he, h2, h3⟩
  -- all but the last are listed once the last is ready
  have hall : ∀ (listed : Array Bool), listed.size = l.length → (∀ j o, l[j]? = some o → listed.getD j false = true → ∀ e ∈ o.after, Region.binds .any e = true → listed.getD e.on false = true) →
      (∀ e ∈ oL.after, Region.binds .any e = true → (listed.push false).getD e.on false = true) → ∀ j, j < l.length → listed.getD j false = true := by
    intro listed hs hcl hd
    suffices ∀ d j, j < l.length → l.length - j ≤ d → listed.getD j false = true from fun j hj => this _ j hj (Nat.le_refl _)
    intro d
    induction d with
    | zero => intro j hj h; omega
    | succ d ih =>
      intro j hj h
      obtain ⟨k, o, hk, hjk, e, he, h2, h3⟩ := hchain j hj
      by_cases hkl : k < l.length
      · rw [List.getElem?_append_left hkl] at hk
        have := hcl k o hk (ih k hkl (by omega)) e he h3
        rw [h2] at this; exact this
      · have hk' : k = l.length := by have := (List.getElem?_eq_some_iff.1 hk).1; simp at this; omega
        subst hk'
        simp at hk
        subst hk
        have := hd e he h3
        rw [h2, push_old (by omega)] at this
        exact this
  have hnone : ∀ listed : Array Bool, listed.size = l.length → (∀ j, j < l.length → listed.getD j false = true) → Region.ready .any l.toArray listed = [] := by
    intro listed hs h
    rw [List.eq_nil_iff_forall_not_mem]
    intro k hk
    rw [mem_ready] at hk
    obtain ⟨h0, o, ho, _⟩ := hk
    have hkl : k < l.length := by simpa using (Array.getElem?_eq_some_iff.1 ho).1
    have h1 := h k hkl
    have hks : k < listed.size := by omega
    simp [Array.getD_eq_getD_getElem?, hks] at h0 h1
    rw [h0] at h1; cases h1
  have hnoneL : ∀ listed : Array Bool, listed.size = l.length → (∀ j, j < l.length → listed.getD j false = true) → Region.ready .any (l ++ [oL]).toArray ((listed.push false).setIfInBounds l.length true) = [] := by
    intro listed hs h
    rw [List.eq_nil_iff_forall_not_mem]
    intro k hk
    rw [mem_ready] at hk
    obtain ⟨h0, o, ho, _⟩ := hk
    have hkl : k < l.length + 1 := by simpa using (Array.getElem?_eq_some_iff.1 ho).1
    by_cases hk2 : k = l.length
    · subst hk2
      simp [Array.getD_eq_getD_getElem?, hs] at h0
    · rw [getD_set_ne true (Ne.symm hk2), push_old (by omega)] at h0
      have h1 := h k (by omega)
      have hks : k < listed.size := by omega
      simp [Array.getD_eq_getD_getElem?, hks] at h0 h1
      rw [h0] at h1; cases h1
  -- something is ready as long as the last is not listed
  have hsome : ∀ listed : Array Bool, listed.size = l.length → Region.ready .any (l ++ [oL]).toArray (listed.push false) ≠ [] := by
    intro listed hs hr
    have key : ∀ k, k < l.length → listed.getD k false = true := by
      intro k
      induction k using Nat.strongRecOn with
      | _ k ih =>
        intro hk
        cases hv : listed.getD k false with
        | true => rfl
        | false =>
          exfalso
          have hmem : k ∈ Region.ready .any (l ++ [oL]).toArray (listed.push false) := by
            rw [mem_ready]
            have hkl : k < listed.size := by omega
            have hget : (l ++ [oL])[k]? = some l[k] := by rw [List.getElem?_append_left hk]; simp
            refine ⟨by rw [push_old hkl]; simpa [Array.getD_eq_getD_getElem?, hkl] using hv, l[k], by simpa using hget, fun e he hb => ?_⟩
            have := (hback k _ hget).1 e he hb
            rw [push_old (by omega)]
            exact ih e.on this (by omega)
          rw [hr] at hmem
          cases hmem
    have hmem : l.length ∈ Region.ready .any (l ++ [oL]).toArray (listed.push false) := by
      rw [mem_ready]
      refine ⟨by simp [Array.getD_eq_getD_getElem?, ← hs], oL, by simp, fun e he hb => ?_⟩
      have := (hback l.length oL (by simp)).1 e he hb
      rw [push_old (by omega)]
      exact key e.on this
    rw [hr] at hmem
    cases hmem
  -- the step of the last
  have hlast : ∀ (fuel : Nat) (listed : Array Bool) (A : Act) (W : World), listed.size = l.length → (∀ j o, l[j]? = some o → listed.getD j false = true → ∀ e ∈ o.after, Region.binds .any e = true → listed.getD e.on false = true) →
      (Region.ready .any l.toArray listed = [] → lastQ P oL Q .normal A W) → l.length ∈ Region.ready .any (l ++ [oL]).toArray (listed.push false) →
      wpOp P (l ++ [oL]).toArray Q l.length (wpAny P .any (l ++ [oL]).toArray Q fuel ((listed.push false).setIfInBounds l.length true)) A W := by
    intro fuel listed A W hs hcl hq hm
    rw [mem_ready] at hm
    obtain ⟨_, o, ho, hd⟩ := hm
    have hoL : o = oL := by simpa using ho.symm
    subst hoL
    have ha := hall listed hs hcl hd
    have h := hq (hnone listed hs ha)
    unfold wpOp
    simp only [ho]
    have hw : Region.wanted o (yielded (l ++ [o]).toArray A.tmps) = true := by simp [Region.wanted, hgL]
    rw [hw, if_pos rfl]
    refine h.imp (Oper.wp_mono (fun A' W' h' => ?_)) id
    have hr := hnoneL listed hs ha
    cases fuel with
    | zero => exact ⟨hr, h'⟩
    | succ f => exact ⟨fun _ => h', fun i hi => by rw [hr] at hi; cases hi⟩
  have hidx : ∀ (listed : Array Bool) (i : Nat), i ∈ Region.ready .any (l ++ [oL]).toArray (listed.push false) → i < l.length ∨ i = l.length := by
    intro listed i hi
    rw [mem_ready] at hi
    obtain ⟨_, o, ho, _⟩ := hi
    have : i < l.length + 1 := by simpa using (Array.getElem?_eq_some_iff.1 ho).1
    omega
  have hdown : ∀ (listed : Array Bool) (i : Nat), listed.size = l.length → i < l.length → i ∈ Region.ready .any (l ++ [oL]).toArray (listed.push false) → i ∈ Region.ready .any l.toArray listed := by
    intro listed i hs hi hm
    rw [mem_ready] at hm ⊢
    obtain ⟨h0, o, ho, hd⟩ := hm
    have hget : (l ++ [oL])[i]? = some o := by simpa using ho
    refine ⟨by rw [push_old (by omega)] at h0; exact h0, o, ?_, fun e he hb => ?_⟩
    · rw [List.getElem?_append_left hi] at hget; simpa using hget
    · have := (hback i o hget).1 e he hb
      have h := hd e he hb
      rw [push_old (by omega)] at h
      exact h
  intro fuel
  induction fuel with
  | zero =>
    intro listed A W hs hcl h
    refine ⟨fun hr => absurd hr (hsome listed hs), fun i hi => ?_⟩
    rcases hidx listed i hi with hlt | rfl
    · have := hdown listed i hs hlt hi
      rw [h.1] at this; cases this
    · exact hlast 0 listed A W hs hcl (fun _ => h.2) hi
  | succ fuel ih =>
    intro listed A W hs hcl h
    refine ⟨fun hr => absurd hr (hsome listed hs), fun i hi => ?_⟩
    rcases hidx listed i hi with hlt | rfl
    · have hdn := hdown listed i hs hlt hi
      have hstep := h.2 i hdn
      have hnext : ∀ A' W', wpAny P .any l.toArray (lastQ P oL Q) fuel (listed.setIfInBounds i true) A' W' → wpAny P .any (l ++ [oL]).toArray Q (fuel + 1) ((listed.push false).setIfInBounds i true) A' W' := by
        intro A' W' h'
        have e1 : (listed.push false).setIfInBounds i true = (listed.setIfInBounds i true).push false := by
          apply Array.ext_getElem?
          intro j
          simp only [Array.getElem?_setIfInBounds, Array.getElem?_push, Array.size_push, Array.size_setIfInBounds]
          by_cases h1 : i = j
          · subst h1
            have : ¬ i = listed.size := by omega
            simp [this, show i < listed.size by omega, show i < listed.size + 1 by omega]
          · simp [h1]
        rw [e1]
        refine ih _ A' W' (by simpa using hs) ?_ h'
        intro j o ho hj e he hb
        by_cases hji : j = i
        · subst hji
          rw [mem_ready] at hdn
          obtain ⟨_, o', ho', hd⟩ := hdn
          have : o' = o := by
            have h2 : l[j]? = some o' := by simpa using ho'
            rw [ho] at h2; injection h2 with h2; exact h2.symm
          subst this
          have h3 := hd e he hb
          by_cases hej : e.on = j
          · rw [hej]; simp [Array.getD_eq_getD_getElem?, show j < listed.size by omega]
          · rw [getD_set_ne false (Ne.symm hej)]; exact h3
        · rw [getD_set_ne false (Ne.symm hji)] at hj
          have h3 := hcl j o ho hj e he hb
          by_cases hej : e.on = i
          · rw [hej]; simp [Array.getD_eq_getD_getElem?, show i < listed.size by omega]
          · rw [getD_set_ne false (Ne.symm hej)]; exact h3
      unfold wpOp at hstep ⊢
      have hg1 : l.toArray[i]? = some l[i] := by simp [hlt]
      have hg2 : (l ++ [oL]).toArray[i]? = some l[i] := by simp [List.getElem?_append_left hlt]
      have hgb := (hback i l[i] (by simpa using hg2)).2
      simp only [hg1] at hstep
      simp only [hg2]
      have hw : Region.wanted l[i] (yielded (l ++ [oL]).toArray A.tmps) = Region.wanted l[i] (yielded l.toArray A.tmps) := by
        unfold Region.wanted
        cases hg : (l[i]).guard with
        | none => rfl
        | some jb =>
          obtain ⟨j, b⟩ := jb
          have hj := hgb j b hg
          have : yielded (l ++ [oL]).toArray A.tmps j = yielded l.toArray A.tmps j := by
            unfold yielded
            simp [List.getElem?_append_left (show j < l.length by omega)]
          simp only [this]
      rw [hw]
      cases hq : Region.wanted l[i] (yielded l.toArray A.tmps) with
      | false =>
        rw [hq] at hstep
        exact hnext _ _ hstep
      | true =>
        rw [hq] at hstep
        simp only [if_true] at hstep ⊢
        exact hstep.imp (fun h => Oper.wp_mono hnext (wp_lastQ h)) (fun h => ⟨h.1, h.2⟩)
    · exact hlast (fuel + 1) listed A W hs hcl h.1 hi
end

/-- **A REGION THAT DRAWS ITS ORDER, AND ENDS IN ONE OPERATION THAT STANDS BEHIND ALL OTHERS.** -/
theorem wp_region_tame_last {P : Program} {id : Nat} {Q : Exit → Act → World → Prop} {w : World} {a0 : Act} {l : List Oper} {oL : Oper} (C : World → Prop) (R : World → World → Prop) (hm : P.follows .mixedOrders = true) (n : Nat) (hn : a0.tmps.size = n)
    (hB : tameB (l ++ [oL]) n = true) (hB' : tameB l n = true) (hL : lastB (l ++ [oL]) = true) (hgL : oL.guard = none) (hC : C w.drew)
    (h : wpTame P C R (l.map (·.dst)) a0 (fun A W => oL.wp P A W (fun A' W' => Q .normal A' W') Q ∨ (oL.asks P A W ∧ LetsOut Q)) l.length l []) : (Code.region id (l ++ [oL]).toArray true).wp P Q a0 w := by
  subst hn
  obtain ⟨G, hlen, _, hfin, hops⟩ := wpTame_facts l [] h
  have h1 := tame_any (Q := lastQ P oL Q) (Qn := fun A W => oL.wp P A W (fun A' W' => Q .normal A' W') Q ∨ (oL.asks P A W ∧ LetsOut Q)) (fun _ _ h => h) hB' G (by simpa using hlen) hfin (by simpa using hops) l.length (Array.replicate l.length false) a0 w.drew (by simp)
    (Nat.le_trans (List.length_filter_le _ _) (by simp)) hC ⟨rfl, rfl, fun _ _ => rfl⟩ (by
      intro j hj
      have : (Array.replicate l.length false).getD j false = false := by
        rw [Array.getD_eq_getD_getElem?, Array.getElem?_replicate]; split <;> rfl
      rw [this] at hj
      cases hj)
  have hback : ∀ (i : Nat) (o : Oper), (l ++ [oL])[i]? = some o → (∀ e ∈ o.after, Region.binds .any e = true → e.on < i) ∧ ∀ (j : Nat) (b : Bool), o.guard = some (j, b) → j < i := by
    intro i o hi
    unfold tameB at hB
    rw [Bool.and_eq_true, List.all_eq_true] at hB
    have h := hB.1 (o, i) (by rw [List.mem_zipIdx_iff_getElem?]; simpa using hi)
    simp only [Bool.and_eq_true] at h
    obtain ⟨⟨h1, h2⟩, h3⟩ := h
    refine ⟨fun e he hbd => ?_, fun j b hg => ?_⟩
    · rw [List.all_eq_true] at h1
      have := h1 e (Array.mem_toList_iff.2 he)
      simpa [hbd] using this
    · rw [hg] at h3
      simp only [Bool.and_eq_true, decide_eq_true_eq] at h3
      exact h3.1
  refine wp_region_any hm ?_
  have h2 := tame_lastL (P := P) (Q := Q) hback hL hgL _ _ _ _ (by simp) (by
    intro j o ho hj
    have : (Array.replicate l.length false).getD j false = false := by
      rw [Array.getD_eq_getD_getElem?, Array.getElem?_replicate]; split <;> rfl
    rw [this] at hj
    cases hj) h1
  have e1 : (l ++ [oL]).toArray.size = l.length + 1 := by simp
  rw [e1, Array.replicate_succ]
  exact h2
/-- The same, for the walk: the last operation is walked as others are. -/
theorem wp_region_tame_cut {P : Program} {id : Nat} {Q : Exit → Act → World → Prop} {w : World} {a0 : Act} {l : List Oper} (C : World → Prop) (R : World → World → Prop) (hm : P.follows .mixedOrders = true) (n : Nat) (hn : a0.tmps.size = n) (oL : Oper) (ho : l.getLast? = some oL)
    (hB : tameB l n = true) (hB' : tameB l.dropLast n = true) (hL : lastB l = true) (hgL : oL.guard = none) (hC : C w.drew)
    (h : wpTame P C R (l.dropLast.map (·.dst)) a0 (fun A W => wpList P l.toArray Q [oL] A W) l.dropLast.length l.dropLast []) : (Code.region id l.toArray true).wp P Q a0 w := by
  have e : l.dropLast ++ [oL] = l := by
    obtain ⟨ys, rfl⟩ := List.getLast?_eq_some_iff.1 ho
    rw [List.dropLast_concat]
  have := wp_region_tame_last (P := P) (id := id) (Q := Q) (w := w) (a0 := a0) (l := l.dropLast) (oL := oL) C R hm n hn (by rw [e]; exact hB) hB' (by rw [e]; exact hL) hgL hC (by
    have hw : ∀ A : Act, Region.wanted oL (yielded l.toArray A.tmps) = true := fun A => by simp [Region.wanted, hgL]
    simpa only [wpList, hw, if_true] using h)
  rw [e] at this
  exact this
end Go.Proofs.YtkpengeaolcjhaaGreatDoor
/- A region that draws its order and whose last two operations stand behind all others: they are walked by themselves, when the others are done. -/
namespace Go.Proofs.YtkpengeaolcjhaaGreatDoor
open Go.RowKit Go.Shelf

theorem wp_lastQ' {P : Program} {oL : Oper} {Q : Exit → Act → World → Prop} {o : Oper} {a : Act} {w : World} {K : Act → World → Prop} (hh : o.wp P a w K Q) : o.wp P a w K (lastQ P oL Q) := by
  unfold Oper.wp at *
  generalize (execOp a.eval o).run P w = r at *
  cases r with
  | ok n w' =>
    cases n <;> simp only [Oper.upon] at hh ⊢ <;>
      first
        | exact hh
        | exact Calls.mono hh (fun e w'' he => by cases e <;> exact he)
  | halt x w' => cases x <;> simp only [Oper.upon] at hh ⊢ <;> exact hh

theorem tame_back {l : List Oper} {n : Nat} (hB : tameB l n = true) : ∀ (i : Nat) (o : Oper), l[i]? = some o → (∀ e ∈ o.after, Region.binds .any e = true → e.on < i) ∧ ∀ (j : Nat) (b : Bool), o.guard = some (j, b) → j < i := by
  intro i o hi
  unfold tameB at hB
  rw [Bool.and_eq_true, List.all_eq_true] at hB
  have h := hB.1 (o, i) (by rw [List.mem_zipIdx_iff_getElem?]; simpa using hi)
  simp only [Bool.and_eq_true] at h
  obtain ⟨⟨h1, h2⟩, h3⟩ := h
  refine ⟨fun e he hbd => ?_, fun j b hg => ?_⟩
  · rw [List.all_eq_true] at h1
    have := h1 e (Array.mem_toList_iff.2 he)
    simpa [hbd] using this
  · rw [hg] at h3
    simp only [Bool.and_eq_true, decide_eq_true_eq] at h3
    exact h3.1

theorem wp_region_tame_last2 {P : Program} {id : Nat} {Q : Exit → Act → World → Prop} {w : World} {a0 : Act} {l : List Oper} {o1 o2 : Oper} (C : World → Prop) (R : World → World → Prop) (hm : P.follows .mixedOrders = true) (n : Nat) (hn : a0.tmps.size = n)
    (hB : tameB ((l ++ [o1]) ++ [o2]) n = true) (hB1 : tameB (l ++ [o1]) n = true) (hB' : tameB l n = true) (hL : lastB ((l ++ [o1]) ++ [o2]) = true) (hL1 : lastB (l ++ [o1]) = true) (hg1 : o1.guard = none) (hg2 : o2.guard = none) (hC : C w.drew)
    (h : wpTame P C R (l.map (·.dst)) a0 (fun A W => wpList P ((l ++ [o1]) ++ [o2]).toArray Q [o1, o2] A W) l.length l []) : (Code.region id ((l ++ [o1]) ++ [o2]).toArray true).wp P Q a0 w := by
  subst hn
  obtain ⟨G, hlen, _, hfin, hops⟩ := wpTame_facts l [] h
  have hw1 : ∀ A : Act, Region.wanted o1 (yielded ((l ++ [o1]) ++ [o2]).toArray A.tmps) = true := fun A => by simp [Region.wanted, hg1]
  have hw2 : ∀ A : Act, Region.wanted o2 (yielded ((l ++ [o1]) ++ [o2]).toArray A.tmps) = true := fun A => by simp [Region.wanted, hg2]
  have hfin' : ∀ A W, C W → Same0 (l.map (·.dst)) a0 A → (∀ j, j < l.length → Fact G A.eval W j) → lastQ P o1 (lastQ P o2 Q) .normal A W := by
    intro A W c s f
    have := hfin A W c s (by simpa using f)
    simp only [wpList, hw1, hw2, if_true] at this
    rcases this with h' | ⟨h1, h2⟩
    · exact .inl (wp_lastQ' (Oper.wp_mono (fun A' W' h'' => h'') h'))
    · exact .inr ⟨h1, h2⟩
  have h1 := tame_any (Q := lastQ P o1 (lastQ P o2 Q)) (Qn := fun A W => lastQ P o1 (lastQ P o2 Q) .normal A W) (fun _ _ h => h) hB' G (by simpa using hlen) hfin' (by simpa using hops) l.length (Array.replicate l.length false) a0 w.drew (by simp)
    (Nat.le_trans (List.length_filter_le _ _) (by simp)) hC ⟨rfl, rfl, fun _ _ => rfl⟩ (by
      intro j hj
      have : (Array.replicate l.length false).getD j false = false := by
        rw [Array.getD_eq_getD_getElem?, Array.getElem?_replicate]; split <;> rfl
      rw [this] at hj
      cases hj)
  have hno : ∀ (m : Nat) (j : Nat) (o : Oper) (L : List Oper), L[j]? = some o → (Array.replicate m false).getD j false = true → ∀ e ∈ o.after, Region.binds .any e = true → (Array.replicate m false).getD e.on false = true := by
    intro m j o L ho hj
    have : (Array.replicate m false).getD j false = false := by
      rw [Array.getD_eq_getD_getElem?, Array.getElem?_replicate]; split <;> rfl
    rw [this] at hj
    cases hj
  refine wp_region_any hm ?_
  have h2 := tame_lastL (P := P) (Q := lastQ P o2 Q) (tame_back hB1) hL1 hg1 _ _ _ _ (by simp) (fun j o ho => hno _ j o l ho) h1
  rw [← Array.replicate_succ] at h2
  have h3 := tame_lastL (P := P) (Q := Q) (tame_back hB) hL hg2 _ _ _ _ (by simp) (fun j o ho => hno _ j o _ ho) h2
  rw [← Array.replicate_succ] at h3
  have e1 : ((l ++ [o1]) ++ [o2]).toArray.size = l.length + 1 + 1 := by simp
  rw [e1]
  exact h3
/-- The same, for the walk. -/
theorem wp_region_tame_cut2 {P : Program} {id : Nat} {Q : Exit → Act → World → Prop} {w : World} {a0 : Act} {l : List Oper} (C : World → Prop) (R : World → World → Prop) (hm : P.follows .mixedOrders = true) (n : Nat) (hn : a0.tmps.size = n) (o1 o2 : Oper) (ho2 : l.getLast? = some o2) (ho1 : l.dropLast.getLast? = some o1)
    (hB : tameB l n = true) (hB1 : tameB l.dropLast n = true) (hB' : tameB l.dropLast.dropLast n = true) (hL : lastB l = true) (hL1 : lastB l.dropLast = true) (hg1 : o1.guard = none) (hg2 : o2.guard = none) (hC : C w.drew)
    (h : wpTame P C R (l.dropLast.dropLast.map (·.dst)) a0 (fun A W => wpList P l.toArray Q [o1, o2] A W) l.dropLast.dropLast.length l.dropLast.dropLast []) : (Code.region id l.toArray true).wp P Q a0 w := by
  have e1 : l.dropLast.dropLast ++ [o1] = l.dropLast := by
    obtain ⟨ys, hy⟩ := List.getLast?_eq_some_iff.1 ho1
    rw [hy, List.dropLast_concat]
  have e2 : (l.dropLast.dropLast ++ [o1]) ++ [o2] = l := by
    rw [e1]
    obtain ⟨ys, hy⟩ := List.getLast?_eq_some_iff.1 ho2
    rw [hy, List.dropLast_concat]
  have := wp_region_tame_last2 (P := P) (id := id) (Q := Q) (w := w) (a0 := a0) (l := l.dropLast.dropLast) (o1 := o1) (o2 := o2) C R hm n hn (by rw [e2]; exact hB) (by rw [e1]; exact hB1) hB' (by rw [e2]; exact hL) (by rw [e1]; exact hL1) hg1 hg2 hC (by rw [e2]; exact h)
  rw [e2] at this
  exact this
end Go.Proofs.YtkpengeaolcjhaaGreatDoor
/- core.kind. -/
namespace Go.Proofs.YtkpengeaolcjhaaGreatDoor
open Go.RowKit Go.Shelf
set_option maxRecDepth 100000
set_option linter.unusedSimpArgs false

def innerL (l : List Int) : List Int := (l.drop 1).take (l.length - 2)
def firstL (l : List Int) : Int := (l[0]?).getD 0
def lastL (l : List Int) : Int := (l[l.length - 1]?).getD 0
def worseL (l : List Int) : Int := max (firstL l) (lastL l)
/-- The kind of a bale by the grades of its layers. -/
def kindL (l : List Int) : Int :=
  if alikeL l then 1 else if 0 < (cutsL l).length then 2 else
  if (alikeL [firstL l, lastL l] && decide (worseL l ≤ mins (innerL l))) && decide (worseL l + 2 ≤ maxs l) then 3 else 4
theorem long_of {l : List Int} (h0 : 0 < l.length) (h1 : alikeL l = false) (h2 : (cutsL l).length = 0) : 3 ≤ l.length := by
  match l, h0 with
  | [x], _ => simp [alikeL, maxs, mins] at h1
  | [x, y], _ =>
    unfold cutsL at h2
    rw [h1] at h2
    simp [cutsTo, cutAt, alikeL, maxs, mins] at h2
  | x :: y :: z :: l, _ => simp
/-- A slice of two fresh numbers. -/
def TwoAt (x y : Int) (v : Value) (W : World) : Prop := ∃ b', v = .slice (some ⟨b', 0, none⟩) 2 2 ∧ W.cell? ⟨b', 0, none⟩ = some (.int .i64 x) ∧ W.cell? ⟨b', 1, none⟩ = some (.int .i64 y) ∧ b' < W.heap.size
theorem TwoAt.ext {x y : Int} {v : Value} {W W' : World} (h : TwoAt x y v W) (e : Ext W W') : TwoAt x y v W' := by
  obtain ⟨b', h1, h2, h4, h3⟩ := h
  exact ⟨b', h1, (e.cells.1 _ _ h3).trans h2, (e.cells.1 _ _ h3).trans h4, Nat.lt_of_lt_of_le h3 e.size⟩
theorem TwoAt.sl {x y : Int} {v : Value} {W : World} (h : TwoAt x y v W) : SlI W v [x, y] := by
  obtain ⟨b', h1, h2, h4, h3⟩ := h
  refine ⟨_, 2, h1, by simp, by decide, fun _ => ⟨b', 0, rfl, h3, fun i z hi j u hu => ?_⟩⟩
  match i, hi with
  | 0, hi =>
    simp at hi; subst hi
    cases j with
    | zero => simp at hu; subst hu; simpa using h2
    | succ j => simp at hu
  | 1, hi =>
    simp at hi; subst hi
    cases j with
    | zero => simp at hu; subst hu; simpa using h4
    | succ j => simp at hu

set_option maxHeartbeats 2000000 in
theorem kind_any (l : List Int) (v : Value) (w : World) (hs : SlI w v l) (h0 : 0 < l.length) (hlen : l.length ≤ 1000) (hb : Small l) :
    Calls Tryz.prog 138 #[v] w fun e w' => e = .returned (.int .i64 (kindL l)) ∧ Ext w w' := by
  have HS := Lib.hid hs
  obtain ⟨A, n, c, rfl, hn, hlc, hcm⟩ := hs.form
  obtain ⟨m, rfl⟩ : ∃ m, n = m + 1 := ⟨n - 1, by have := hn.out; omega⟩
  obtain ⟨b, off, x, rfl, hx, -, hcell⟩ := hs.at_ (show 0 < m + 1 by omega)
  obtain ⟨b', off', y, e1, hy, -, hcell'⟩ := hs.at_ (show m < m + 1 by omega)
  injection e1 with e1
  injection e1 with e1 e2
  subst e1 e2
  have HF := Lib.hid (show firstL l = x by unfold firstL; rw [hx]; rfl)
  have HLA := Lib.hid (show lastL l = y by unfold lastL; rw [show l.length - 1 = m by have := hn.out; omega, hy]; rfl)
  have HWO := Lib.hid (show worseL l = max x y by unfold worseL; rw [HF.out, HLA.out])
  have hm1000 : m + 1 ≤ 1000 := by have := hn.out; omega
  have hbx := hb x (List.mem_of_getElem? hx)
  have hby := hb y (List.mem_of_getElem? hy)
  have c0 := fun W (h : Ext w W) => SlI.cell hcell h
  have c1 := fun W (h : Ext w W) => SlI.cell hcell' h
  have HB := Lib.hid hb; have H0 := Lib.hid h0; have HLE := Lib.hid hlen
  clear hs hb h0 hlen hx hy hcell hcell'
  simp only [Nat.add_zero] at c0
  have hnz : (0 : Int) < (m : Int) + 1 := by omega
  have hm0 : (0 : Int) ≤ (m : Int) := by omega
  have hm1 : (m : Int) < (m : Int) + 1 := by omega
  have hwr : IntKind.i64.wrap (m : Int) = (m : Int) := by simp [IntKind.wrap, IntKind.signed, IntKind.bits]; omega
  go_enter Tryz.func138, Tryz.ntmps138
  go_wp2
  refine wp_region_tame (fun W => Ext w W) (fun W W' => Ext W W') (by kernel_rfl) 49 rfl (by decide +kernel) (Ext.refl _).drew ?_
  repeat (apply tame_q rfl; (intro ρ W hC hr hD; (obtain ⟨hrc, hrg, hrf, hrs⟩ := hr); (simp [go_sem] at hD); go_simp; first | exact ⟨⟨hC, Ext.refl _⟩, rfl⟩ | exact ⟨⟨hC, RS.refl _⟩, rfl⟩ | exact rfl); simp only [List.nil_append, List.cons_append])
  refine tame_end 49 rfl rfl (fun ρ W hC hr hF => ?_)
  obtain ⟨hrc, hrg, hrf, hrs⟩ := hr
  simp [go_sem] at hF
  apply frame_to
  · go_simp
    exact rfl
  clear hF hrs hrc hrg hrf
  have E1 := Lib.hid hC; clear hC
  generalize hwo : max x y = wo at HWO
  have hwb : -1000000 ≤ wo ∧ wo ≤ 1000000 := by omega
  clear hwo
  go_wp2_with fail
  refine (alike_any l _ _ (HS.out.ext E1.out) H0.out HB.out).mono ?_
  rintro e w2 ⟨rfl, hE⟩
  have E2 := Lib.hid (E1.out.trans hE); clear hE
  cases hal : alikeL l with
  | true =>
    have HK := Lib.hid (show kindL l = 1 by unfold kindL; rw [if_pos hal])
    clear hal
    go_wp2
    go_ret
    exact ⟨by rw [HK.out]; rfl, E2.out⟩
  | false =>
    have HAL := Lib.hid hal; clear hal
    go_wp2_with fail
    refine (cuts_any l _ _ (HS.out.ext E2.out) H0.out HLE.out HB.out).mono ?_
    rintro e w3 ⟨v', rfl, hv', hE⟩
    have E3 := Lib.hid (E2.out.trans hE); clear hE
    obtain ⟨A3, n3, c3, rfl, hn3, hlc3, hcm3⟩ := hv'.form
    clear hv'
    by_cases h3 : 0 < n3
    · have HK := Lib.hid (show kindL l = 2 by unfold kindL; rw [if_neg (by rw [HAL.out]; simp), if_pos (by have := hn3.out; omega)])
      have h3z : (0 : Int) < (n3 : Int) := by omega
      go_wp2
      go_ret
      exact ⟨by rw [HK.out]; rfl, E3.out⟩
    · have h3z : ¬ (0 : Int) < (n3 : Int) := by omega
      have hlong := long_of H0.out HAL.out (by have := hn3.out; omega)
      have HKE := Lib.hid (show kindL l = if (alikeL [x, y] && decide (wo ≤ mins (innerL l))) && decide (wo + 2 ≤ maxs l) then 3 else 4 by
        unfold kindL; rw [if_neg (by rw [HAL.out]; simp), if_neg (by have := hn3.out; omega), HF.out, HLA.out, HWO.out])
      have hm2 : 2 ≤ m := by have := hn.out; omega
      have hm2z : (1 : Int) ≤ (m : Int) := by omega
      have hmc : (m : Int) ≤ (c : Int) := by omega
      have hc1 : ¬ c = 1 := by omega
      have hw2 : IntKind.i64.wrap (wo + 2) = wo + 2 := by simp [IntKind.wrap, IntKind.signed, IntKind.bits]; omega
      have TL := Lib.hid (HS.out.ext E3.out)
      have TI := Lib.hid (show SlI w3 (.slice (some ⟨b, off + 1, none⟩) (m - 1) (c - 1)) (innerL l) by
        unfold innerL
        rw [show l.length - 2 = m - 1 by have := hn.out; omega]
        exact (TL.out.drop (k := 1) (c' := c - 1) (by omega) (by unfold maxLen; omega)).take (by omega) (by omega) (by unfold maxLen; omega))
      have LI := Lib.hid (show 0 < (innerL l).length by unfold innerL; rw [List.length_take, List.length_drop]; omega)
      have HXY := Lib.hid (show Small [x, y] from fun z hz => by simp at hz; rcases hz with rfl | rfl <;> assumption)
      have k0 := fun W (h : Ext w3 W) => c0 W (E3.out.trans h)
      have k1 := fun W (h : Ext w3 W) => c1 W (E3.out.trans h)
      clear c0 c1 hlong
      cases ha2 : alikeL [x, y] with
      | false =>
        have HA2 := Lib.hid ha2
        have HK := Lib.hid (show kindL l = 4 by rw [HKE.out, ha2]; rfl)
        clear ha2
        go_wp2
        refine wp_region_tame (fun W => Ext w3 W) (fun W W' => Ext W W') (by kernel_rfl) 49 rfl (by decide +kernel) (Ext.refl _).drew ?_
        repeat (apply tame_q rfl; (intro ρ W hC hr hD; (obtain ⟨hrc, hrg, hrf, hrs⟩ := hr); (simp [go_sem] at hD); go_simp; first | exact ⟨⟨hC, Ext.refl _⟩, rfl⟩ | exact ⟨⟨hC, RS.refl _⟩, rfl⟩ | exact rfl); simp only [List.nil_append, List.cons_append])
        apply tame_v rfl (TwoAt x y) (fun v W W' _ hE h => h.ext hE)
        · intro ρ W hC hr hD
          obtain ⟨hrc, hrg, hrf, hrs⟩ := hr
          simp [go_sem] at hD
          go_simp
          exact ⟨⟨hC.alloc _, Ext.al _ _⟩, ⟨_, rfl, by simp [go_sem], by simp [go_sem], by simp⟩⟩
        simp only [List.nil_append, List.cons_append]
        apply tame_q (v0 := .bool false) rfl
        · intro ρ W hC hr hD
          obtain ⟨hrc, hrg, hrf, hrs⟩ := hr
          simp [go_sem] at hD
          go_simp
          refine (alike_any [x, y] _ _ hD.sl (by simp) HXY.out).mono ?_
          rintro e w' ⟨rfl, hE⟩
          rw [HA2.out]
          exact ⟨_, rfl, ⟨hC.trans hE, hE⟩, rfl⟩
        simp only [List.nil_append, List.cons_append]
        repeat (apply tame_q rfl; (intro ρ W hC hr hD; (obtain ⟨hrc, hrg, hrf, hrs⟩ := hr); (simp [go_sem] at hD); go_simp; first | exact ⟨⟨hC, Ext.refl _⟩, rfl⟩ | exact ⟨⟨hC, RS.refl _⟩, rfl⟩ | exact rfl); simp only [List.nil_append, List.cons_append])
        refine tame_end 49 rfl rfl (fun ρ W hC hr hF => ?_)
        obtain ⟨hrc, hrg, hrf, hrs⟩ := hr
        simp [go_sem] at hF
        obtain ⟨b32, e32, -, -, -⟩ := hF.2.2.2.2.2.2.2.1
        apply frame_to
        · go_simp
          exact rfl
        clear hF hrs hrc hrg hrf
        go_wp2
        go_ret
        exact ⟨by rw [HK.out]; rfl, E3.out.trans hC⟩
      | true =>
        have HA2 := Lib.hid ha2
        clear ha2
        by_cases hmi : wo ≤ mins (innerL l)
        · by_cases hma : wo + 2 ≤ maxs l
          · have HK := Lib.hid (show kindL l = 3 by rw [HKE.out, HA2.out, decide_eq_true hmi, decide_eq_true hma]; rfl)
            go_wp2
            refine wp_region_tame (fun W => Ext w3 W) (fun W W' => Ext W W') (by kernel_rfl) 49 rfl (by decide +kernel) (Ext.refl _).drew ?_
            repeat (apply tame_q rfl; (intro ρ W hC hr hD; (obtain ⟨hrc, hrg, hrf, hrs⟩ := hr); (simp [go_sem] at hD); go_simp; first | exact ⟨⟨hC, Ext.refl _⟩, rfl⟩ | exact ⟨⟨hC, RS.refl _⟩, rfl⟩ | exact rfl); simp only [List.nil_append, List.cons_append])
            apply tame_v rfl (TwoAt x y) (fun v W W' _ hE h => h.ext hE)
            · intro ρ W hC hr hD
              obtain ⟨hrc, hrg, hrf, hrs⟩ := hr
              simp [go_sem] at hD
              go_simp
              exact ⟨⟨hC.alloc _, Ext.al _ _⟩, ⟨_, rfl, by simp [go_sem], by simp [go_sem], by simp⟩⟩
            simp only [List.nil_append, List.cons_append]
            apply tame_q (v0 := .bool true) rfl
            · intro ρ W hC hr hD
              obtain ⟨hrc, hrg, hrf, hrs⟩ := hr
              simp [go_sem] at hD
              go_simp
              refine (alike_any [x, y] _ _ hD.sl (by simp) HXY.out).mono ?_
              rintro e w' ⟨rfl, hE⟩
              rw [HA2.out]
              exact ⟨_, rfl, ⟨hC.trans hE, hE⟩, rfl⟩
            simp only [List.nil_append, List.cons_append]
            repeat (apply tame_q rfl; (intro ρ W hC hr hD; (obtain ⟨hrc, hrg, hrf, hrs⟩ := hr); (simp [go_sem] at hD); go_simp; first | exact ⟨⟨hC, Ext.refl _⟩, rfl⟩ | exact ⟨⟨hC, RS.refl _⟩, rfl⟩ | exact rfl); simp only [List.nil_append, List.cons_append])
            apply tame_q rfl
            · intro ρ W hC hr hD
              obtain ⟨hrc, hrg, hrf, hrs⟩ := hr
              simp [go_sem] at hD
              go_simp
              refine (f142_any (innerL l) _ _ (TI.out.ext hC) LI.out).mono ?_
              rintro e w' ⟨rfl, hE⟩
              exact ⟨_, rfl, ⟨hC.trans hE, hE⟩, rfl⟩
            simp only [List.nil_append, List.cons_append]
            repeat (apply tame_q rfl; (intro ρ W hC hr hD; (obtain ⟨hrc, hrg, hrf, hrs⟩ := hr); (simp [go_sem] at hD); go_simp; first | exact ⟨⟨hC, Ext.refl _⟩, rfl⟩ | exact ⟨⟨hC, RS.refl _⟩, rfl⟩ | exact rfl); simp only [List.nil_append, List.cons_append])
            apply tame_q rfl
            · intro ρ W hC hr hD
              obtain ⟨hrc, hrg, hrf, hrs⟩ := hr
              simp [go_sem] at hD
              go_simp
              refine (f141_any l _ _ (TL.out.ext hC) H0.out).mono ?_
              rintro e w' ⟨rfl, hE⟩
              exact ⟨_, rfl, ⟨hC.trans hE, hE⟩, rfl⟩
            simp only [List.nil_append, List.cons_append]
            repeat (apply tame_q rfl; (intro ρ W hC hr hD; (obtain ⟨hrc, hrg, hrf, hrs⟩ := hr); (simp [go_sem] at hD); go_simp; first | exact ⟨⟨hC, Ext.refl _⟩, rfl⟩ | exact ⟨⟨hC, RS.refl _⟩, rfl⟩ | exact rfl); simp only [List.nil_append, List.cons_append])
            refine tame_end 49 rfl rfl (fun ρ W hC hr hF => ?_)
            obtain ⟨hrc, hrg, hrf, hrs⟩ := hr
            simp [go_sem] at hF
            obtain ⟨b32, e32, -, -, -⟩ := hF.2.2.2.2.2.2.2.1
            apply frame_to
            · go_simp
              exact rfl
            clear hF hrs hrc hrg hrf
            go_wp2
            go_ret
            exact ⟨by rw [HK.out]; rfl, E3.out.trans hC⟩
          · have HK := Lib.hid (show kindL l = 4 by rw [HKE.out, decide_eq_false hma, Bool.and_false]; rfl)
            go_wp2
            refine wp_region_tame (fun W => Ext w3 W) (fun W W' => Ext W W') (by kernel_rfl) 49 rfl (by decide +kernel) (Ext.refl _).drew ?_
            repeat (apply tame_q rfl; (intro ρ W hC hr hD; (obtain ⟨hrc, hrg, hrf, hrs⟩ := hr); (simp [go_sem] at hD); go_simp; first | exact ⟨⟨hC, Ext.refl _⟩, rfl⟩ | exact ⟨⟨hC, RS.refl _⟩, rfl⟩ | exact rfl); simp only [List.nil_append, List.cons_append])
            apply tame_v rfl (TwoAt x y) (fun v W W' _ hE h => h.ext hE)
            · intro ρ W hC hr hD
              obtain ⟨hrc, hrg, hrf, hrs⟩ := hr
              simp [go_sem] at hD
              go_simp
              exact ⟨⟨hC.alloc _, Ext.al _ _⟩, ⟨_, rfl, by simp [go_sem], by simp [go_sem], by simp⟩⟩
            simp only [List.nil_append, List.cons_append]
            apply tame_q (v0 := .bool true) rfl
            · intro ρ W hC hr hD
              obtain ⟨hrc, hrg, hrf, hrs⟩ := hr
              simp [go_sem] at hD
              go_simp
              refine (alike_any [x, y] _ _ hD.sl (by simp) HXY.out).mono ?_
              rintro e w' ⟨rfl, hE⟩
              rw [HA2.out]
              exact ⟨_, rfl, ⟨hC.trans hE, hE⟩, rfl⟩
            simp only [List.nil_append, List.cons_append]
            repeat (apply tame_q rfl; (intro ρ W hC hr hD; (obtain ⟨hrc, hrg, hrf, hrs⟩ := hr); (simp [go_sem] at hD); go_simp; first | exact ⟨⟨hC, Ext.refl _⟩, rfl⟩ | exact ⟨⟨hC, RS.refl _⟩, rfl⟩ | exact rfl); simp only [List.nil_append, List.cons_append])
            apply tame_q rfl
            · intro ρ W hC hr hD
              obtain ⟨hrc, hrg, hrf, hrs⟩ := hr
              simp [go_sem] at hD
              go_simp
              refine (f142_any (innerL l) _ _ (TI.out.ext hC) LI.out).mono ?_
              rintro e w' ⟨rfl, hE⟩
              exact ⟨_, rfl, ⟨hC.trans hE, hE⟩, rfl⟩
            simp only [List.nil_append, List.cons_append]
            repeat (apply tame_q rfl; (intro ρ W hC hr hD; (obtain ⟨hrc, hrg, hrf, hrs⟩ := hr); (simp [go_sem] at hD); go_simp; first | exact ⟨⟨hC, Ext.refl _⟩, rfl⟩ | exact ⟨⟨hC, RS.refl _⟩, rfl⟩ | exact rfl); simp only [List.nil_append, List.cons_append])
            apply tame_q rfl
            · intro ρ W hC hr hD
              obtain ⟨hrc, hrg, hrf, hrs⟩ := hr
              simp [go_sem] at hD
              go_simp
              refine (f141_any l _ _ (TL.out.ext hC) H0.out).mono ?_
              rintro e w' ⟨rfl, hE⟩
              exact ⟨_, rfl, ⟨hC.trans hE, hE⟩, rfl⟩
            simp only [List.nil_append, List.cons_append]
            repeat (apply tame_q rfl; (intro ρ W hC hr hD; (obtain ⟨hrc, hrg, hrf, hrs⟩ := hr); (simp [go_sem] at hD); go_simp; first | exact ⟨⟨hC, Ext.refl _⟩, rfl⟩ | exact ⟨⟨hC, RS.refl _⟩, rfl⟩ | exact rfl); simp only [List.nil_append, List.cons_append])
            refine tame_end 49 rfl rfl (fun ρ W hC hr hF => ?_)
            obtain ⟨hrc, hrg, hrf, hrs⟩ := hr
            simp [go_sem] at hF
            obtain ⟨b32, e32, -, -, -⟩ := hF.2.2.2.2.2.2.2.1
            apply frame_to
            · go_simp
              exact rfl
            clear hF hrs hrc hrg hrf
            go_wp2
            go_ret
            exact ⟨by rw [HK.out]; rfl, E3.out.trans hC⟩
        · have HK := Lib.hid (show kindL l = 4 by rw [HKE.out, decide_eq_false hmi, Bool.and_false, Bool.false_and]; rfl)
          have hmi2 : decide (wo ≤ mins (innerL l)) = false := decide_eq_false hmi
          go_wp2
          refine wp_region_tame (fun W => Ext w3 W) (fun W W' => Ext W W') (by kernel_rfl) 49 rfl (by decide +kernel) (Ext.refl _).drew ?_
          repeat (apply tame_q rfl; (intro ρ W hC hr hD; (obtain ⟨hrc, hrg, hrf, hrs⟩ := hr); (simp [go_sem] at hD); go_simp; first | exact ⟨⟨hC, Ext.refl _⟩, rfl⟩ | exact ⟨⟨hC, RS.refl _⟩, rfl⟩ | exact rfl); simp only [List.nil_append, List.cons_append])
          apply tame_v rfl (TwoAt x y) (fun v W W' _ hE h => h.ext hE)
          · intro ρ W hC hr hD
            obtain ⟨hrc, hrg, hrf, hrs⟩ := hr
            simp [go_sem] at hD
            go_simp
            exact ⟨⟨hC.alloc _, Ext.al _ _⟩, ⟨_, rfl, by simp [go_sem], by simp [go_sem], by simp⟩⟩
          simp only [List.nil_append, List.cons_append]
          apply tame_q (v0 := .bool true) rfl
          · intro ρ W hC hr hD
            obtain ⟨hrc, hrg, hrf, hrs⟩ := hr
            simp [go_sem] at hD
            go_simp
            refine (alike_any [x, y] _ _ hD.sl (by simp) HXY.out).mono ?_
            rintro e w' ⟨rfl, hE⟩
            rw [HA2.out]
            exact ⟨_, rfl, ⟨hC.trans hE, hE⟩, rfl⟩
          simp only [List.nil_append, List.cons_append]
          repeat (apply tame_q rfl; (intro ρ W hC hr hD; (obtain ⟨hrc, hrg, hrf, hrs⟩ := hr); (simp [go_sem] at hD); go_simp; first | exact ⟨⟨hC, Ext.refl _⟩, rfl⟩ | exact ⟨⟨hC, RS.refl _⟩, rfl⟩ | exact rfl); simp only [List.nil_append, List.cons_append])
          apply tame_q rfl
          · intro ρ W hC hr hD
            obtain ⟨hrc, hrg, hrf, hrs⟩ := hr
            simp [go_sem] at hD
            go_simp
            refine (f142_any (innerL l) _ _ (TI.out.ext hC) LI.out).mono ?_
            rintro e w' ⟨rfl, hE⟩
            exact ⟨_, rfl, ⟨hC.trans hE, hE⟩, rfl⟩
          simp only [List.nil_append, List.cons_append]
          repeat (apply tame_q rfl; (intro ρ W hC hr hD; (obtain ⟨hrc, hrg, hrf, hrs⟩ := hr); (simp [go_sem] at hD); go_simp; first | exact ⟨⟨hC, Ext.refl _⟩, rfl⟩ | exact ⟨⟨hC, RS.refl _⟩, rfl⟩ | exact rfl); simp only [List.nil_append, List.cons_append])
          refine tame_end 49 rfl rfl (fun ρ W hC hr hF => ?_)
          obtain ⟨hrc, hrg, hrf, hrs⟩ := hr
          simp [go_sem] at hF
          obtain ⟨b32, e32, -, -, -⟩ := hF.2.2.2.2.2.2.2.1
          apply frame_to
          · go_simp
            exact rfl
          clear hF hrs hrc hrg hrf
          go_wp2
          go_ret
          exact ⟨by rw [HK.out]; rfl, E3.out.trans hC⟩
end Go.Proofs.YtkpengeaolcjhaaGreatDoor
/- Equality of structs, as the program tests it; that the reference's test of a bale is the program's. -/
namespace Go.Proofs.YtkpengeaolcjhaaGreatDoor
open Go.RowKit Go.Shelf
set_option maxRecDepth 100000

theorem und57 : Tryz.prog.underlying 57 = some (.struct (Tryz.prog.fieldsOf 57)) := by kernel_rfl
theorem und134 : Tryz.prog.underlying 134 = some (.struct (Tryz.prog.fieldsOf 134)) := by kernel_rfl
theorem held57 : Tryz.prog.stoodInHeld 57 = false := by kernel_rfl
theorem held134 : Tryz.prog.stoodInHeld 134 = false := by kernel_rfl
theorem eqin57 (d : Nat) (a b a' b' : Int) (w : World) : (Op.equalIn (d + 2) 57 (.agg #[.int .i64 a, .int .i64 b]) (.agg #[.int .i64 a', .int .i64 b'])).run Tryz.prog w = .ok (a == a' && b == b') w := by
  have u3 := Tryz.underlying3
  have a3 := Tryz.isAgg3
  have z3 := Tryz.sizeOf3
  rw [run_equalIn_agg w (d + 1) 57 _ _ und57 held57]
  simp only [Program.fieldsOf, Tryz.underlying57]
  go_simp
  by_cases h1 : a = a' <;> by_cases h2 : b = b' <;> simp [h1, h2]
theorem eqin134 (d : Nat) (n l a b n' l' a' b' : Int) (w : World) : (Op.equalIn (d + 3) 134 (.agg #[.int .i64 n, .int .i64 l, .int .i64 a, .int .i64 b]) (.agg #[.int .i64 n', .int .i64 l', .int .i64 a', .int .i64 b'])).run Tryz.prog w = .ok (n == n' && (l == l' && (a == a' && b == b'))) w := by
  have u3 := Tryz.underlying3
  have a3 := Tryz.isAgg3
  have z3 := Tryz.sizeOf3
  have a23 := Tryz.isAgg57
  have z23 := Tryz.sizeOf57
  have e := eqin57 d
  rw [run_equalIn_agg w (d + 2) 134 _ _ und134 held134]
  simp only [Program.fieldsOf, Tryz.underlying134]
  go_simp
  by_cases h1 : a = a' <;> by_cases h2 : b = b' <;> by_cases h3 : n = n' <;> by_cases h4 : l = l' <;> simp [h1, h2, h3, h4]
theorem eql134l (n l a b l' : Int) (w : World) : (binOp .eql 134 (.agg #[.int .i64 n, .int .i64 l, .int .i64 a, .int .i64 b]) (.agg #[.int .i64 n, .int .i64 l', .int .i64 a, .int .i64 b])).run Tryz.prog w = .ok (.bool (l == l')) w := by
  rw [run_eql_struct, show (10000 : Nat) = 9997 + 3 from rfl, eqin134]; simp [Result.andThen]

/-! The reference's validity is the program's. -/
theorem right_eq (a b L M : Int) : (inB L b a && !decide (M < b)) = rightB a b L M := by
  unfold rightB inB
  rw [Bool.eq_iff_iff]
  simp
  omega
theorem refDs_eq (layers : Int) : ∀ (last : Int) (l : List Draw), refDs layers last l = (risingB last (l.map (·.number)) && !l.any (badD layers))
  | _, [] => rfl
  | last, x :: l => by
    rw [refDs, refDs_eq layers x.number l, List.map_cons, risingB, List.any_cons]
    unfold refD badD
    rw [show ((inB (last + 1) 9999 x.number && inB 0 (layers - 1) x.layer) && inB 1 x.grade.hi x.grade.lo && !decide (9 < x.grade.hi)) = ((inB (last + 1) 9999 x.number && inB 0 (layers - 1) x.layer) && (inB 1 x.grade.hi x.grade.lo && !decide (9 < x.grade.hi))) from by rw [Bool.and_assoc], right_eq]
    cases inB (last + 1) 9999 x.number <;> cases inB 0 (layers - 1) x.layer <;> cases rightB x.grade.lo x.grade.hi 1 9 <;> simp
theorem refWs_eq : ∀ (last : Int) (l : List Weigh), refWs last l = (risingB last (l.map (·.number)) && !l.any badW)
  | _, [] => rfl
  | last, x :: l => by
    rw [refWs, refWs_eq x.number l, List.map_cons, risingB, List.any_cons]
    unfold refW badW
    rw [show ((inB (last + 1) 9999 x.number && inB 1 1200 x.pounds) && inB 0 x.damp.hi x.damp.lo && !decide (200 < x.damp.hi)) = ((inB (last + 1) 9999 x.number && inB 1 1200 x.pounds) && (inB 0 x.damp.hi x.damp.lo && !decide (200 < x.damp.hi))) from by rw [Bool.and_assoc], right_eq]
    cases inB (last + 1) 9999 x.number <;> cases inB 1 1200 x.pounds <;> cases rightB x.damp.lo x.damp.hi 0 200 <;> simp
theorem not_lt_le (a b : Int) : (!decide (a < b)) = decide (b ≤ a) := by rw [Bool.eq_iff_iff]; simp
theorem refValid_eq (b : Bale) : refValid b = valid b := by
  unfold refValid refHead valid chk1 chk2
  rw [refDs_eq, refWs_eq, ← right_eq b.dry.lo b.dry.hi 1 600, not_lt_le, not_lt_le 10, not_lt_le 8]
  cases inB 1 9999 b.id <;> cases inB 1 5 b.layers <;> cases inB 1 b.dry.hi b.dry.lo <;> cases decide (b.dry.hi ≤ 600) <;> cases decide ((b.draws.length : Int) ≤ 10) <;> cases decide ((b.weighs.length : Int) ≤ 8) <;> cases risingB 0 (b.draws.map (·.number)) <;> cases risingB 0 (b.weighs.map (·.number)) <;> cases b.draws.any (badD b.layers) <;> cases b.weighs.any badW <;> rfl
theorem refBale_v (b : Bale) (dv wv : Value) (w : World) (hd : SlD w dv b.draws) (hw : SlW w wv b.weighs) :
    Calls Tryz.prog 93 #[valB b dv wv] w fun e w' => e = .returned (.bool (valid b)) ∧ Ext w w' := refValid_eq b ▸ refBale_any b dv wv w hd hw
end Go.Proofs.YtkpengeaolcjhaaGreatDoor
