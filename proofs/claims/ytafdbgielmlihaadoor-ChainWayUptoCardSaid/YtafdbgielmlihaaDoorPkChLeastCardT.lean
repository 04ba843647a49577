/- The program's Hands, plain: where bales stay is counted in a map. -/
import Derived.Test.YtafdbgielmlihaaDoorPkChLeastCardR
import Derived.WalkMore
import Derived.Test.YtafdbgielmlihaaDoorPkChLeastCardJ
import Derived.Test.YtafdbgielmlihaaDoorPkChLeastCardD
import Derived.Test.YtafdbgielmlihaaDoorPkChLeastCardO
import Derived.Test.YtafdbgielmlihaaDoorPkChLeastCardS
namespace Go.Proofs.YtafdbgielmlihaaDoor
open Go.RowKit Go.Shelf
set_option linter.unusedSimpArgs false

/-- A house's place. -/
theorem house_idx {c : Chn} (hR : Right c) {i : Nat} {t : Int} (hi : c.houses[i]? = some t) : houseI c t = i := by
  unfold houseI
  rcases idxF_cases (fun h => decide (h = t)) c.houses with ⟨-, h⟩ | ⟨k, x, e, hx, hp, -⟩
  · have := h t (List.mem_of_getElem? hi)
    simp at this
  · have hxt : x = t := of_decide_eq_true hp
    subst hxt
    rw [e]
    have hp := List.pairwise_iff_getElem.1 (rising_pair hR.hr)
    obtain ⟨h1, h2⟩ := List.getElem?_eq_some_iff.1 hi
    obtain ⟨h3, h4⟩ := List.getElem?_eq_some_iff.1 hx
    rcases Nat.lt_trichotomy k i with h | h | h
    · have := hp k i h3 h1 h; omega
    · rw [h]
    · have := hp i k h1 h3 h; omega
/-- So many bales of the house go on; a map counts where they stay. -/
def cntTo (c : Chn) (h : Int) (m : List Int) : Nat → List Int × (Int → Int)
  | 0 => (m, fun _ => 0)
  | k + 1 => ((follow c (cntTo c h m k).1 h).1, fun x => if x = (follow c (cntTo c h m k).1 h).2 then (cntTo c h m k).2 x + 1 else (cntTo c h m k).2 x)
theorem cnt_bd (c : Chn) (h : Int) (m : List Int) : ∀ (k : Nat) (x : Int), 0 ≤ (cntTo c h m k).2 x ∧ (cntTo c h m k).2 x ≤ k
  | 0, x => by simp [cntTo]
  | k + 1, x => by
    have := cnt_bd c h m k x
    rw [cntTo]
    dsimp only
    split <;> omega
theorem cnt_row {c : Chn} (hR : Right c) {h : Int} (hh : h ∈ c.houses) {m : List Int} (hm : Mvs c m) : ∀ k, (cntTo c h m k).1 = (handRow c h k (m, List.replicate c.houses.length 0)).1 ∧
    ∀ (i : Nat) (t : Int), c.houses[i]? = some t → (handRow c h k (m, List.replicate c.houses.length 0)).2[i]? = some ((cntTo c h m k).2 t)
  | 0 => ⟨rfl, fun i t hi => by
      have := (List.getElem?_eq_some_iff.1 hi).1
      rw [handRow, cntTo, List.getElem?_replicate, if_pos this]⟩
  | k + 1 => by
    obtain ⟨h1, h2⟩ := cnt_row hR hh hm k
    obtain ⟨h3, -, -⟩ := handRow_ok hR hh hm (B := 0) (row := List.replicate c.houses.length 0) (by simp) (rep_zero _) k
    have hfo := (follow_ok hR h3 hh).2
    have hlt := houseI_lt hfo
    refine ⟨by rw [cntTo, handRow, h1], fun i t hi => ?_⟩
    rw [handRow, cntTo, bump_get, h2 i t hi, h1, Option.map_some]
    congr 1
    have key : ((houseI c (follow c (handRow c h k (m, List.replicate c.houses.length 0)).1 h).2).toNat = i) ↔ t = (follow c (handRow c h k (m, List.replicate c.houses.length 0)).1 h).2 := by
      constructor
      · intro e
        exact house_inj (house_idx hR hi) (by omega)
      · intro e
        rw [← e, house_idx hR hi]
        omega
    simp only [key]
/-- What each house owes, when the first k of them have handed out all, and the next one j bales. -/
def OweAt (c : Chn) (gets : List Int) (k j : Nat) (g : Int → Int) : Prop := ∀ (i : Nat) (t x : Int), k ≤ i → c.houses[i]? = some t → gets[i]? = some x → g t = ((-x).toNat : Int) - (if i = k then (j : Int) else 0)
/-- .. and while the map is filled. -/
def OweTo (c : Chn) (gets : List Int) (k : Nat) (g : Int → Int) : Prop := ∀ (i : Nat) (t x : Int), c.houses[i]? = some t → gets[i]? = some x → g t = if i < k then ((-x).toNat : Int) else 0
theorem owe_start (c : Chn) (gets : List Int) : OweTo c gets 0 fun _ => 0 := fun i t x _ _ => by simp
theorem owe_put {c : Chn} (hR : Right c) {gets : List Int} {k : Nat} {g : Int → Int} {t x : Int} (h : OweTo c gets k g) (ht : c.houses[k]? = some t) (hx : gets[k]? = some x) (h0 : x < 0) : OweTo c gets (k + 1) (fun y => if y = t then -x else g y) := by
  intro i t' x' ht' hx'
  by_cases e : i = k
  · subst e
    rw [ht] at ht'; rw [hx] at hx'
    injection ht' with ht'; injection hx' with hx'
    subst ht' hx'
    simp only [if_true]
    rw [if_pos (by omega)]
    omega
  · have hne : t' ≠ t := fun e2 => e (by subst e2; have := house_idx hR ht'; have := house_idx hR ht; omega)
    simp only [if_neg hne]
    rw [h i t' x' ht' hx']
    by_cases h1 : i < k
    · rw [if_pos h1, if_pos (by omega)]
    · rw [if_neg h1, if_neg (by omega)]
theorem owe_skip {c : Chn} {gets : List Int} {k : Nat} {g : Int → Int} {x : Int} (h : OweTo c gets k g) (hx : gets[k]? = some x) (h0 : ¬ x < 0) : OweTo c gets (k + 1) g := by
  intro i t' x' ht' hx'
  rw [h i t' x' ht' hx']
  by_cases e : i = k
  · subst e
    rw [hx] at hx'
    injection hx' with hx'
    subst hx'
    rw [if_neg (by omega), if_pos (by omega)]
    omega
  · by_cases h1 : i < k
    · rw [if_pos h1, if_pos (by omega)]
    · rw [if_neg h1, if_neg (by omega)]
theorem owe_full {c : Chn} {gets : List Int} {k : Nat} {g : Int → Int} (h : OweTo c gets k g) (hk : c.houses.length ≤ k) : OweAt c gets 0 0 g := fun i t x _ ht hx => by
  have := (List.getElem?_eq_some_iff.1 ht).1
  rw [h i t x ht hx, if_pos (by omega)]
  split <;> simp
theorem owe_step {c : Chn} (hR : Right c) {gets : List Int} {k j : Nat} {g g' : Int → Int} {t : Int} (h : OweAt c gets k j g) (ht : c.houses[k]? = some t) (h1 : g' t = g t - 1) (h2 : ∀ y, y ≠ t → g' y = g y) : OweAt c gets k (j + 1) g' := by
  intro i t' x' hi ht' hx'
  by_cases e : i = k
  · subst e
    rw [ht] at ht'
    injection ht' with ht'
    subst ht'
    rw [h1, h i t x' hi ht hx', if_pos rfl, if_pos rfl]
    omega
  · have hne : t' ≠ t := fun e2 => e (by subst e2; have := house_idx hR ht'; have := house_idx hR ht; omega)
    rw [h2 t' hne, h i t' x' hi ht' hx', if_neg e, if_neg e]
theorem owe_next {c : Chn} {gets : List Int} {k j : Nat} {g : Int → Int} (h : OweAt c gets k j g) : OweAt c gets (k + 1) 0 g := by
  intro i t x hi ht hx
  rw [h i t x (by omega) ht hx, if_neg (by omega)]
  split <;> simp
end Go.Proofs.YtafdbgielmlihaaDoor
/- The program's on: a bale goes on by the first sale of its house that still moves one; it calls itself by a boxed variable. -/
namespace Go.Proofs.YtafdbgielmlihaaDoor
open Go.RowKit Go.Shelf Go.Lib
set_option maxRecDepth 100000
set_option linter.unusedSimpArgs false

/-- What the closure sees. -/
structure HopW (c : Chn) (b1 b4 b9 mb gm n2 cp2 N2 M2 : Nat) (A2 : Option Addr) (v1 hv' sv' cv' : Value) (m : List Int) (W : World) : Prop where
  ch : Blk W b1 25 #[v1, .slice A2 n2 cp2]
  mp : Blk W b4 109 #[.pointer (some ⟨mb, 0, none⟩)]
  mkt : Blk W mb 112 #[hv', sv', .slice (some ⟨gm, 0, none⟩) N2 M2, cv']
  fn : Blk W b9 118 #[.func (.func 80) #[] #[.pointer (some ⟨b1, 0, none⟩), .pointer (some ⟨b4, 0, none⟩), .pointer (some ⟨b9, 0, none⟩)]]
  row : RowI W gm m
  sl : SlL W (.slice A2 n2 cp2) c.sales
  x1 : b1 ≠ gm
  x4 : b4 ≠ gm
  xm : mb ≠ gm
  x9 : b9 ≠ gm
  xs : 0 < c.sales.length → ∀ b o, A2 = some ⟨b, o, none⟩ → b ≠ gm
section
variable {c : Chn} {b1 b4 b9 mb gm n2 cp2 N2 M2 : Nat} {A2 : Option Addr} {v1 hv' sv' cv' : Value} {m m' : List Int} {W W' : World}
theorem ne_some {a b : Nat} (h : a ≠ b) : some a ≠ some b := fun e => h (by injection e)
theorem HopW.grown (h : HopW c b1 b4 b9 mb gm n2 cp2 N2 M2 A2 v1 hv' sv' cv' m W) (k : W.grownBy W' (some gm)) (hr : RowI W' gm m') : HopW c b1 b4 b9 mb gm n2 cp2 N2 M2 A2 v1 hv' sv' cv' m' W' :=
  ⟨h.ch.grown k (ne_some h.x1), h.mp.grown k (ne_some h.x4), h.mkt.grown k (ne_some h.xm), h.fn.grown k (ne_some h.x9), hr, h.sl.grown k h.xs, h.x1, h.x4, h.xm, h.x9, h.xs⟩
theorem HopW.ext (h : HopW c b1 b4 b9 mb gm n2 cp2 N2 M2 A2 v1 hv' sv' cv' m W) (k : Ext W W') : HopW c b1 b4 b9 mb gm n2 cp2 N2 M2 A2 v1 hv' sv' cv' m W' :=
  h.grown (grown_ext (World.grownBy.refl _ _) k) (h.row.ext k)
end
set_option maxHeartbeats 4000000 in
theorem hop_any (c : Chn) {b1 b4 b9 mb gm n2 cp2 N2 M2 : Nat} {A2 : Option Addr} {v1 hv' sv' cv' : Value} (hl : c.sales.length ≤ 1000) (hN : N2 = c.sales.length) :
    ∀ (g : Nat) (m : List Int) (h : Int) (W : World), mu m ≤ g → Mvs c m → HopW c b1 b4 b9 mb gm n2 cp2 N2 M2 A2 v1 hv' sv' cv' m W →
      Calls Tryd.prog 80 #[.int .i64 h, .pointer (some ⟨b1, 0, none⟩), .pointer (some ⟨b4, 0, none⟩), .pointer (some ⟨b9, 0, none⟩)] W fun e W' => e = .returned (.int .i64 (follow c m h).2) ∧ W.grownBy W' (some gm) ∧ RowI W' gm (follow c m h).1 := by
  intro g
  induction g using Nat.strongRecOn with
  | ind g ih =>
    intro m h W hg hm hW
    have IH := Lib.hid ih; have HW := Lib.hid hW; have HM := Lib.hid hm; have HN := Lib.hid hN
    obtain ⟨A2', n2', cp2', e2, hn2, hlc2, hcm2⟩ := hW.sl.form
    injection e2 with e2 e3 e4
    subst e2 e3 e4
    have HN2 := Lib.hid (show N2 = n2 by have := hn2.out; omega)
    have hn2b : n2 ≤ 1000 := by have := hn2.out; omega
    obtain ⟨b0, b1', bf, bl⟩ := hW.ch.c2
    clear ih hW hm hN
    go_enter Tryd.func80, Tryd.ntmps80
    go_wp2
    go_step3
    go_wp2
    go_step3
    go_wp2
    clear b0 b1' bf bl
    refine wp_loop_ghost_k (fun gg A' V => ∃ (i : Nat), i ≤ n2 ∧ n2 - i ≤ gg ∧ Fr 45 [(0, .int .i64 h), (1, .pointer (some ⟨b1, 0, none⟩)), (2, .pointer (some ⟨b4, 0, none⟩)), (3, .pointer (some ⟨b9, 0, none⟩)), (9, .slice A2 n2 cp2), (10, .int .i64 (n2 : Int)), (11, .int .i64 (i : Int))] [] A' ∧
      Ext W V ∧ ((c.sales.zip m).take i).any (onB h) = false) n2 ?_ ?_
    · exact ⟨0, by omega, by omega, ⟨rfl, rfl, by simp [Act.eval]⟩, Ext.refl _, by simp⟩
    · rintro gg A' V ⟨i, hi, hgg, hF, hE, hany⟩ J K' hJ hK
      have HJ := Lib.hid hJ; have EV := Lib.hid hE; have HA := Lib.hid hany
      obtain ⟨ρ, rfl, hρ⟩ := hF.open_
      simp only [List.forall_mem_cons] at hρ
      obtain ⟨r0, r1, r2, r3, r9, r10, r11, -⟩ := hρ
      simp only [lst, Nat.reduceAdd, r0, r1, r2, r3, r9, r10, r11]
      clear r0 r1 r2 r3 r9 r10 r11 hF hE hany hJ
      have HV := Lib.hid (HW.out.ext EV.out)
      by_cases hin : i < n2
      · have hiz : (i : Int) < (n2 : Int) := by omega
        obtain ⟨bx, ox, x, rfl, hx, -, hcellx⟩ := HV.out.sl.at_ hin
        obtain ⟨y, hy⟩ : ∃ y, m[i]? = some y := ⟨_, List.getElem?_eq_getElem (by have := HM.out.l; have := hn2.out; omega)⟩
        obtain ⟨c0, c1, c2, c3, c4⟩ := SlL.cells hcellx (Ext.refl V)
        have hyb := HM.out.b y (List.mem_of_getElem? hy)
        obtain ⟨V2, hV2⟩ : ∃ V2, V2 = V.alloc (.cells #[.int .i64 x.number, .int .i64 x.seller, .int .i64 x.buyer, .int .i64 x.bales, .int .i64 x.price] 68) := ⟨_, rfl⟩
        have E2 := Lib.hid (show Ext V V2 from hV2 ▸ Ext.al _ _)
        have BX := Lib.hid (show Blk V2 V.heap.size 68 #[.int .i64 x.number, .int .i64 x.seller, .int .i64 x.buyer, .int .i64 x.bales, .int .i64 x.price] from hV2 ▸ Blk.new _ _ _)
        have HV2 := Lib.hid (HV.out.ext E2.out)
        obtain ⟨x0, x1, x2, x3, x4, xf, xl⟩ := BX.out.c5
        obtain ⟨m0, m1, m2, m3, mf, ml⟩ := HV2.out.mkt.c4
        obtain ⟨p0, pf, pl⟩ := HV2.out.mp.c1
        have cy := HV2.out.row.cell hy
        have cyf := HV2.out.row.frozen
        have cyl := HV2.out.row.lt
        have hiN : i < N2 := by have := HN2.out; omega
        have hiNz : (i : Int) < (N2 : Int) := by omega
        have HSN := Lib.hid (on_snoc (h := h) hx hy)
        have HX := Lib.hid hx; have HY := Lib.hid hy
        have HE2 := Lib.hid (EV.out.trans E2.out)
        subst hV2
        clear hcellx hx hy
        by_cases hs : x.seller = h
        · subst hs
          have HS := Lib.hid (rfl : x.seller = x.seller)
          by_cases h0 : y = 0
          · have h1 : (y == 0) = true := by simpa using h0
            have HA2 := Lib.hid (show ((c.sales.zip m).take (i + 1)).any (onB x.seller) = false by rw [HSN.out, HA.out, h0]; simp)
            have h2 : decide (y = 0) = true := decide_eq_true h0
            clear h0
            go_wp2
            exact Handed.intro (n2 - (i + 1)) (by omega) (HJ.out _ _ _ ⟨i + 1, by omega, Nat.le_refl _, ⟨rfl, rfl, by simp [Act.eval]⟩, HE2.out, HA2.out⟩)
          · have h1 : (y == 0) = false := by simpa using h0
            have hy0 : 0 < y := by omega
            have HO := Lib.hid (on_some HX.out HY.out HA.out HS.out hy0)
            have HST := Lib.hid (follow_step HO.out HX.out HY.out)
            have hmu := mu_set m i y HY.out hy0
            have hm2 : Mvs c (m.set i (y - 1)) := ⟨by rw [List.length_set]; exact HM.out.l, fun z hz => by
              rcases List.mem_or_eq_of_mem_set hz with hz | rfl
              · exact HM.out.b z hz
              · omega⟩
            have HM2 := Lib.hid hm2
            have hw1 : IntKind.i64.wrap (y - 1) = y - 1 := by rw [IntKind.wrap_i64]; omega
            have hgV := HV.out.row.lt
            have HG2 := Lib.hid (grown_set (grown_ext (World.grownBy.refl W (some gm)) EV.out) (p := ⟨gm, i, none⟩) (.inl rfl) (.int .i64 (y - 1)))
            have HG3 := Lib.hid (grown_ext HG2.out (Ext.al _ (.cells #[.int .i64 x.number, .int .i64 x.seller, .int .i64 x.buyer, .int .i64 x.bales, .int .i64 x.price] 68)))
            have HV3 := Lib.hid (HW.out.grown HG3.out ((HV.out.row.set i (y - 1)).alloc _))
            obtain ⟨q0, qf, ql⟩ := HV3.out.fn.c1
            have BX3 := Lib.hid (show Blk ((V.setCell ⟨gm, i, none⟩ (.int .i64 (y - 1))).alloc (.cells #[.int .i64 x.number, .int .i64 x.seller, .int .i64 x.buyer, .int .i64 x.bales, .int .i64 x.price] 68)) V.heap.size 68 #[.int .i64 x.number, .int .i64 x.seller, .int .i64 x.buyer, .int .i64 x.bales, .int .i64 x.price] from Blk.at_ (by simp))
            obtain ⟨z0, z1, z2, z3, z4, zf, zl⟩ := BX3.out.c5
            go_wp2_with fail
            refine (IH.out (mu (m.set i (y - 1))) (by omega) _ x.buyer _ (Nat.le_refl _) HM2.out HV3.out).mono ?_
            rintro e V5 ⟨rfl, hG5, hR5⟩
            have HG5 := Lib.hid (grown_tr HG3.out hG5); have HR5 := Lib.hid hR5
            clear hG5 hR5
            go_wp2
            try rw [Exit.noGoto_ret]
            go_ret
            rw [HST.out]
            exact ⟨rfl, HG5.out, HR5.out⟩
        · have hs1 : (x.seller == h) = false := by simpa using hs
          have HA2 := Lib.hid (show ((c.sales.zip m).take (i + 1)).any (onB h) = false by rw [HSN.out, HA.out]; simp [hs])
          go_wp2
          exact Handed.intro (n2 - (i + 1)) (by omega) (HJ.out _ _ _ ⟨i + 1, by omega, Nat.le_refl _, ⟨rfl, rfl, by simp [Act.eval]⟩, HE2.out, HA2.out⟩)
      · have HE := Lib.hid (show i = n2 by omega)
        have HST := Lib.hid (follow_stop (on_none (c := c) (m := m) (h := h) (i := i) (by have := HE.out; have := hn2.out; omega) HA.out))
        have HVR := Lib.hid HV.out.row
        go_wp2
        try rw [Exit.noGoto_ret]
        go_ret
        rw [HST.out]
        exact ⟨rfl, grown_ext (World.grownBy.refl _ _) EV.out, HVR.out⟩
end Go.Proofs.YtafdbgielmlihaaDoor
/- The program's Hands, part two: all bales of a house. -/
namespace Go.Proofs.YtafdbgielmlihaaDoor
open Go.RowKit Go.Shelf Go.Lib
set_option maxRecDepth 100000
set_option linter.unusedSimpArgs false

/-- Some blocks may turn. -/
structure OffB (S : Nat → Prop) (A B : World) : Prop where
  os : B.os = A.os
  tape : B.tape = A.tape
  output : B.output = A.output
  size : A.heap.size ≤ B.heap.size
  block : ∀ i, i < A.heap.size → ¬ S i → B.heap[i]? = A.heap[i]?
theorem OffB.refl (S : Nat → Prop) (A : World) : OffB S A A := ⟨rfl, rfl, rfl, Nat.le_refl _, fun _ _ _ => rfl⟩
theorem OffB.one {S : Nat → Prop} {g : Nat} {A B C : World} (h : OffB S A B) (k : B.grownBy C (some g)) (hg : S g) : OffB S A C :=
  ⟨k.os.trans h.os, k.tape.trans h.tape, k.output.trans h.output, Nat.le_trans h.size k.size, fun i hi hs => (k.block i (Nat.lt_of_lt_of_le hi h.size) (by
    intro e; injection e with e; exact hs (by rw [e]; exact hg))).trans (h.block i hi hs)⟩
theorem OffB.ext {S : Nat → Prop} {A B C : World} (h : OffB S A B) (k : Ext B C) : OffB S A C :=
  ⟨k.os.trans h.os, k.tape.trans h.tape, k.output.trans h.output, Nat.le_trans h.size k.size, fun i hi hs => (k.block i (Nat.lt_of_lt_of_le hi h.size)).trans (h.block i hi hs)⟩
theorem ext_off {S : Nat → Prop} {w A B : World} (h : Ext w A) (k : OffB S A B) (hs : ∀ i, i < w.heap.size → ¬ S i) : Ext w B where
  os := k.os.trans h.os
  tape := k.tape.trans h.tape
  output := k.output.trans h.output
  size := Nat.le_trans h.size k.size
  block := fun i hi => (k.block i (Nat.lt_of_lt_of_le hi h.size) (hs i hi)).trans (h.block i hi)
section
variable {W W' : World} {q : Nat}
def NoC (W : World) (q : Nat) : Prop := ¬ ∃ c t f, W.heap[q]? = some (.cells c t f)
theorem Blk.noC {g : Nat} {t : TypeId} {cs : Array Value} (h : Blk W g t cs) (k : NoC W q) : g ≠ q := fun e => k (by subst e; exact ⟨_, _, _, h⟩)
theorem Blk.offC {g : Nat} {t : TypeId} {cs : Array Value} (h : Blk W g t cs) (k : W.grownBy W' (some q)) (hq : NoC W q) : Blk W' g t cs := h.grown k (ne_some (h.noC hq))
theorem Sl.offC {α : Type} {enc : α → List Value} {sz : Nat} {a : Option Addr} {n c : Nat} {l : List α} (h : Sl enc sz W (.slice a n c) l) (k : W.grownBy W' (some q)) (hq : NoC W q) : Sl enc sz W' (.slice a n c) l := by
  obtain ⟨a', c', hv, hl, hc, hcell⟩ := h
  injection hv with e1 e2 e3
  subst e1 e2 e3
  refine ⟨_, _, rfl, hl, hc, fun h0 => ?_⟩
  obtain ⟨b, off, hA, hb, hcell⟩ := hcell h0
  refine ⟨b, off, hA, Nat.lt_of_lt_of_le hb k.size, fun i x hi j u hu => ?_⟩
  have h1 := hcell i x hi j u hu
  obtain ⟨h2, h3⟩ := is_cells h1
  exact (World.cell?_of_block (a := ⟨b, _, none⟩) (k.block b h2 (ne_some fun e => hq (by subst e; exact h3)))).trans h1
theorem own_offC {α : Type} {enc : α → List Value} {e : TypeId} {sz base : Nat} {v : Value} {l : List α} (h : Own enc e sz W base v l) (k : W.grownBy W' (some q)) (hq : NoC W q) : Own enc e sz W' base v l := by
  refine ⟨h.1, ?_⟩
  rcases h.2 with h2 | ⟨g, cap, cur, e1, hb, hg, h5⟩
  · exact .inl h2
  · exact .inr ⟨g, cap, cur, e1, hb, Blk.offC hg k hq, h5⟩
theorem MapI.noC {m n : Nat} {g : Int → Int} (h : MapI W m n g) : NoC W m := h.noCells
theorem MapI.grown {m n r : Nat} {g : Int → Int} (h : MapI W m n g) (k : W.grownBy W' (some r)) (hr : m ≠ r) : MapI W' m n g := h.at_ (k.block m h.lt (ne_some hr))
end
theorem HopW.offC {c : Chn} {b1 b4 b9 mb gm n2 cp2 N2 M2 : Nat} {A2 : Option Addr} {v1 hv' sv' cv' : Value} {m : List Int} {W W' : World} {q : Nat} (h : HopW c b1 b4 b9 mb gm n2 cp2 N2 M2 A2 v1 hv' sv' cv' m W) (k : W.grownBy W' (some q)) (hq : NoC W q) : HopW c b1 b4 b9 mb gm n2 cp2 N2 M2 A2 v1 hv' sv' cv' m W' :=
  ⟨h.ch.offC k hq, h.mp.offC k hq, h.mkt.offC k hq, h.fn.offC k hq, Blk.offC h.row k hq, h.sl.offC k hq, h.x1, h.x4, h.xm, h.x9, h.xs⟩

set_option maxHeartbeats 8000000 in
theorem bales4_wp {c : Chn} {m0 gets : List Int} {k K : Nat} {h0 g0 : Int} {b1 b4 b9 mb gm n2 cp2 N2 M2 bm bo nn : Nat} {A2 : Option Addr} {v1 hv' sv' cv' : Value} {f0 : Int → Int} {w : World} {a0 : Act} {v10 v51 v52 v53 : Value} {Q : Exit → Act → World → Prop}
    (hR : Right c) (hl : c.sales.length ≤ 1000) (hN : N2 = c.sales.length) (hh0 : c.houses[k]? = some h0) (hg0 : gets[k]? = some g0) (hK : K = (-g0).toNat) (hKb : K ≤ 1000) (hm : Mvs c m0)
    (hF : Fr 103 [(1, .pointer (some ⟨b1, 0, none⟩)), (4, .pointer (some ⟨b4, 0, none⟩)), (6, .map (some bo)), (9, .pointer (some ⟨b9, 0, none⟩)), (10, v10), (12, .int .i64 h0), (13, .map (some bm)), (51, v51), (52, v52), (53, v53)] [] a0)
    (hW : HopW c b1 b4 b9 mb gm n2 cp2 N2 M2 A2 v1 hv' sv' cv' m0 w) (hM : MapI w bm 0 fun _ => 0) (hO : MapI w bo nn f0) (hOA : OweAt c gets k 0 f0) (hnn : nn ≤ 1000000) (xb : bo ≠ bm)
    (hQ : ∀ A' W' f, Fr 103 [(1, .pointer (some ⟨b1, 0, none⟩)), (4, .pointer (some ⟨b4, 0, none⟩)), (6, .map (some bo)), (9, .pointer (some ⟨b9, 0, none⟩)), (10, v10), (12, .int .i64 h0), (13, .map (some bm)), (51, v51), (52, v52), (53, v53)] [] A' →
      OffB (fun i => i = gm ∨ i = bm ∨ i = bo) w W' → HopW c b1 b4 b9 mb gm n2 cp2 N2 M2 A2 v1 hv' sv' cv' (cntTo c h0 m0 K).1 W' → MapI W' bm K (cntTo c h0 m0 K).2 → MapI W' bo (nn + K) f → OweAt c gets (k + 1) 0 f → Q .normal A' W') :
    (subC [1, 1, 1, 1, 1, 1, 1, 1, 0, 1, 2, 3, 1, 1, 0, 2, 1, 1, 0] (Tryd.f30.body.getD .skip)).wp Tryd.prog Q a0 w := by
  have HR := Lib.hid hR; have HW := Lib.hid hW; have HMM := Lib.hid hM; have HOO := Lib.hid hO; have HOA := Lib.hid hOA; have HQ := Lib.hid hQ; have HN := Lib.hid hN; have HM := Lib.hid hm; have HH0 := Lib.hid hh0; have HG0 := Lib.hid hg0; have HK := Lib.hid hK
  have h0b : In64 h0 := by have := rising_gt hR.hr h0 (List.mem_of_getElem? hh0); unfold In64; omega
  have HHM := Lib.hid (List.mem_of_getElem? hh0)
  clear hR hW hM hO hOA hQ hN hm hh0 hg0 hK
  delta Tryd.f30
  simp only [subC, Option.getD_some]
  obtain ⟨ρ, rfl, hρ⟩ := hF.open_
  simp only [List.forall_mem_cons] at hρ
  obtain ⟨r1, r4, r6, r9, r10, r12, r13, r51, r52, r53, -⟩ := hρ
  simp only [lst, Nat.reduceAdd, r1, r4, r6, r9, r10, r12, r13, r51, r52, r53]
  clear r1 r4 r6 r9 r10 r12 r13 r51 r52 r53 hF
  go_wp2
  refine wp_loop_ghost_k (fun g A' W => ∃ (j : Nat) (f : Int → Int), j ≤ K ∧ K - j ≤ g ∧ Fr 103 [(1, .pointer (some ⟨b1, 0, none⟩)), (4, .pointer (some ⟨b4, 0, none⟩)), (6, .map (some bo)), (9, .pointer (some ⟨b9, 0, none⟩)), (10, v10), (12, .int .i64 h0), (13, .map (some bm)), (51, v51), (52, v52), (53, v53)] [] A' ∧
    OffB (fun i => i = gm ∨ i = bm ∨ i = bo) w W ∧ HopW c b1 b4 b9 mb gm n2 cp2 N2 M2 A2 v1 hv' sv' cv' (cntTo c h0 m0 j).1 W ∧ MapI W bm j (cntTo c h0 m0 j).2 ∧ MapI W bo (nn + j) f ∧ OweAt c gets k j f) K ?_ ?_
  · exact ⟨0, f0, by omega, by omega, ⟨rfl, rfl, by simp [Act.eval]⟩, OffB.refl _ _, HW.out, HMM.out, HOO.out, HOA.out⟩
  · rintro g A' W ⟨j, f, hj, hg, hF, hOff, hW, hM, hO, hOA⟩ J K' hJ hK'
    have HJ := Lib.hid hJ; have HOF := Lib.hid hOff; have HW1 := Lib.hid hW; have HM1 := Lib.hid hM; have HO1 := Lib.hid hO; have HOA1 := Lib.hid hOA
    obtain ⟨ρ, rfl, hρ⟩ := hF.open_
    simp only [List.forall_mem_cons] at hρ
    obtain ⟨r1, r4, r6, r9, r10, r12, r13, r51, r52, r53, -⟩ := hρ
    simp only [lst, Nat.reduceAdd, r1, r4, r6, r9, r10, r12, r13, r51, r52, r53]
    clear r1 r4 r6 r9 r10 r12 r13 r51 r52 r53 hF hOff hW hM hO hOA hJ HW HMM HOO HOA
    have hf0 : f h0 = (K : Int) - j := by
      have := HOA1.out k h0 g0 (Nat.le_refl _) HH0.out HG0.out
      rw [if_pos rfl, ← HK.out] at this
      exact this
    have l0 := HO1.out.look h0b
    rw [hf0] at l0
    by_cases hjK : j < K
    · have hz : 0 < (K : Int) - j := by omega
      obtain ⟨hc1, -⟩ := cnt_row HR.out HHM.out HM.out j
      obtain ⟨ho1, -, -⟩ := handRow_ok HR.out HHM.out HM.out (B := 0) (row := List.replicate c.houses.length 0) (by simp) (rep_zero _) j
      rw [← hc1] at ho1
      have HMJ := Lib.hid ho1
      have hfo := (follow_ok HR.out ho1 HHM.out).2
      have hrb := rising_gt HR.out.hr _ hfo
      have hkb : In64 (follow c (cntTo c h0 m0 j).1 h0).2 := by unfold In64; omega
      have hcb := cnt_bd c h0 m0 j (follow c (cntTo c h0 m0 j).1 h0).2
      obtain ⟨cc, hcc⟩ : ∃ cc, (cntTo c h0 m0 j).2 (follow c (cntTo c h0 m0 j).1 h0).2 = cc := ⟨_, rfl⟩
      rw [hcc] at hcb
      have HCC := Lib.hid hcc
      obtain ⟨q0, qf, ql⟩ := HW1.out.fn.c1
      have NGM := Lib.hid (Blk.noC HW1.out.row HM1.out.noC); have NGO := Lib.hid (Blk.noC HW1.out.row HO1.out.noC)
      clear hc1 ho1 hfo hrb hcc
      go_wp2_with fail
      refine (hop_any c hl HN.out (mu (cntTo c h0 m0 j).1) (cntTo c h0 m0 j).1 h0 W (Nat.le_refl _) HMJ.out HW1.out).mono ?_
      rintro e W1 ⟨rfl, hG1, hR1⟩
      have hMa := HM1.out.grown hG1 (Ne.symm NGM.out)
      have hOa := HO1.out.grown hG1 (Ne.symm NGO.out)
      have hWa := HW1.out.grown hG1 hR1
      have l1 := hMa.look hkb
      rw [HCC.out] at l1
      have hw1 : IntKind.i64.wrap (cc + 1) = cc + 1 := by rw [IntKind.wrap_i64]; omega
      obtain ⟨W2, s2, hMb, hG2⟩ := hMa.store hkb (by omega) (v := cc + 1) (by unfold In64; omega)
      have hOb := hOa.grown hG2 xb
      have hWb := hWa.offC hG2 hMa.noC
      have l2 := hOb.look h0b
      rw [hf0] at l2
      obtain ⟨r, hr⟩ : ∃ r : Int, (K : Int) - j - 1 = r := ⟨_, rfl⟩
      have hw2 : IntKind.i64.wrap ((K : Int) - j - 1) = r := by rw [IntKind.wrap_i64]; omega
      obtain ⟨W3, s3, hOc, hG3⟩ := hOb.store h0b (by omega) (v := r) (by unfold In64; omega)
      have hMc := hMb.grown hG3 (Ne.symm xb)
      have hWc := hWb.offC hG3 hOb.noC
      have l3 := hOc.look h0b
      rw [if_pos rfl] at l3
      have HOFc := Lib.hid (((HOF.out.one hG1 (.inl rfl)).one hG2 (.inr (.inl rfl))).one hG3 (.inr (.inr rfl)))
      have HMc := Lib.hid hMc; have HOc := Lib.hid hOc; have HWc := Lib.hid hWc
      have HST := Lib.hid (owe_step HR.out HOA1.out HH0.out (g' := fun x => if x = h0 then r else f x) (by simp; omega) (fun y hy => by simp [hy]))
      have HCN : (cntTo c h0 m0 (j + 1)).2 = fun x => if x = (follow c (cntTo c h0 m0 j).1 h0).2 then cc + 1 else (cntTo c h0 m0 j).2 x := by
        rw [cntTo]
        funext x
        dsimp only
        split
        · rename_i e; rw [e, HCC.out]
        · rfl
      have HCN2 := Lib.hid HCN
      clear hMa hOa hWa hMb hOb hWb hMc hOc hWc hG1 hG2 hG3 hR1 q0 qf ql HCN
      have HRR := Lib.hid hr
      clear hr
      by_cases hlast : r = 0
      · subst hlast
        obtain ⟨W4, s4, hOd, hG4⟩ := HOc.out.drop h0b 0
        have HOFd := Lib.hid (HOFc.out.one hG4 (.inr (.inr rfl))); have HMd := Lib.hid (HMc.out.grown hG4 (Ne.symm xb)); have HOd := Lib.hid hOd; have HWd := Lib.hid (HWc.out.offC hG4 HOc.out.noC)
        have HST2 := Lib.hid (owe_step HR.out HOA1.out HH0.out (g' := fun x => if x = h0 then 0 else if x = h0 then 0 else f x) (by have := HRR.out; simp; omega) (fun y hy => by simp [hy]))
        clear hOd hG4
        go_wp2
        exact Handed.intro (K - (j + 1)) (by omega) (HJ.out _ _ _ ⟨j + 1, _, by omega, Nat.le_refl _, ⟨rfl, rfl, by simp [Act.eval]⟩, HOFd.out, HWd.out, by rw [HCN2.out]; exact HMd.out, HOd.out, HST2.out⟩)
      · have hl1 : (r == 0) = false := by simpa using hlast
        go_wp2
        exact Handed.intro (K - (j + 1)) (by omega) (HJ.out _ _ _ ⟨j + 1, _, by omega, Nat.le_refl _, ⟨rfl, rfl, by simp [Act.eval]⟩, HOFc.out, HWc.out, by rw [HCN2.out]; exact HMc.out, HOc.out, HST.out⟩)
    · have hz : ¬ 0 < (K : Int) - j := by omega
      have HE := Lib.hid (show j = K by omega)
      go_wp2
      have h1 := HW1.out; have h2 := HM1.out; have h3 := HO1.out
      rw [HE.out] at h1 h2 h3
      exact HQ.out _ _ _ ⟨rfl, rfl, by simp [Act.eval]⟩ HOF.out h1 h2 h3 (owe_next HOA1.out)
end Go.Proofs.YtafdbgielmlihaaDoor
/- The program's Hands, part three: what a house hands out is put out. -/
namespace Go.Proofs.YtafdbgielmlihaaDoor
open Go.RowKit Go.Shelf Go.Lib
set_option maxRecDepth 100000
set_option linter.unusedSimpArgs false

theorem und99 : Tryd.prog.underlying 99 = some (.struct (Tryd.prog.fieldsOf 99)) := by kernel_rfl
theorem held99 : Tryd.prog.stoodInHeld 99 = false := by kernel_rfl
theorem neq99h (a b x : Int) (w : World) : (binOp .neq 99 (.agg #[.int .i64 a, .int .i64 b, .int .i64 x]) (.agg #[.int .i64 a, .int .i64 b, .int .i64 0])).run Tryd.prog w = .ok (.bool (!(x == 0))) w := by
  have u3 := Tryd.underlying3
  have a3 := Tryd.isAgg3
  have z3 := Tryd.sizeOf3
  rw [run_neq_struct, show (10000 : Nat) = 9999 + 1 from rfl, run_equalIn_agg w 9999 99 _ _ und99 held99]
  simp only [Program.fieldsOf, Tryd.underlying99]
  go_simp
  by_cases h : x = 0
  · subst h; rfl
  · rw [if_neg h, show (x == 0) = false by simpa using h]; rfl
theorem own_neC {α : Type} {enc : α → List Value} {sz base q : Nat} {e : TypeId} {W : World} {v : Value} {l : List α} (h : Own enc e sz W base v l) (hq : NoC W q) : some q ≠ v.ownBlock := by
  rcases h.2 with ⟨rfl, -⟩ | ⟨g, cap, cur, e1, hb, hg, h5⟩
  · simp [Value.ownBlock]
  · subst e1
    intro hk
    have : q = g := by simpa [Value.ownBlock] using hk
    exact hq ⟨_, _, _, this ▸ hg⟩
theorem MapI.alloc {W : World} {m n : Nat} {g : Int → Int} (h : MapI W m n g) (o : Obj) : MapI (W.alloc o) m n g := h.ext (Ext.al _ _)
set_option maxHeartbeats 4000000 in
theorem outp6_wp {c : Chn} {row : List Int} {cnt : Int → Int} {out0 : List Hnd} {h0 : Int} {b1 bm K B : Nat} {A : Option Addr} {n cp : Nat} {v2 : Value} {A0 : Option Addr} {n0 d0 : Nat} {w : World} {a0 : Act} {v4 v6 v9 v51 v52 v53 : Value} {Q : Exit → Act → World → Prop}
    (hR : Right c) (hn : n = c.houses.length) (hn6 : n ≤ 6) (hol : out0.length ≤ 1000) (hBw : B ≤ w.heap.size) (hb3 : b1 < B) (hcb : ∀ t, 0 ≤ cnt t) (hrow : ∀ (i : Nat) (t : Int), c.houses[i]? = some t → row[i]? = some (cnt t))
    (hF : Fr 103 [(1, .pointer (some ⟨b1, 0, none⟩)), (4, v4), (6, v6), (9, v9), (10, .slice A0 n0 d0), (12, .int .i64 h0), (13, .map (some bm)), (51, v51), (52, v52), (53, v53), (79, .slice A n cp), (80, .int .i64 (n : Int)), (81, .int .i64 0)] [] a0)
    (hB : Blk w b1 25 #[.slice A n cp, v2]) (hh : SlI w (.slice A n cp) c.houses) (hhB : 0 < c.houses.length → ∀ b o, A = some ⟨b, o, none⟩ → b < B) (hM : MapI w bm K cnt) (hO : Own encHd 99 3 w B (.slice A0 n0 d0) out0)
    (hQ : ∀ A' W' A1 n1 d1, Fr 103 [(1, .pointer (some ⟨b1, 0, none⟩)), (4, v4), (6, v6), (9, v9), (10, .slice A1 n1 d1), (51, v51), (52, v52), (53, v53)] [] A' →
      Below B w W' → Own encHd 99 3 W' B (.slice A1 n1 d1) (out0 ++ outRow c h0 row) → Q .normal A' W') :
    (subC [1, 1, 1, 1, 1, 1, 1, 1, 0, 1, 2, 3, 1, 1, 0, 2, 1, 1, 1, 1] (Tryd.f30.body.getD .skip)).wp Tryd.prog Q a0 w := by
  have HB := Lib.hid hB; have HH := Lib.hid hh; have HHB := Lib.hid hhB; have HM := Lib.hid hM; have HO := Lib.hid hO; have HQ := Lib.hid hQ; have HN := Lib.hid hn; have HR := Lib.hid hR; have HCB := Lib.hid hcb; have HROW := Lib.hid hrow
  clear hB hh hhB hM hO hQ hn hR hcb hrow
  have nq := neq99h
  delta Tryd.f30
  simp only [subC, Option.getD_some]
  obtain ⟨ρ, rfl, hρ⟩ := hF.open_
  simp only [List.forall_mem_cons] at hρ
  obtain ⟨r1, r4, r6, r9, r10, r12, r13, r51, r52, r53, r79, r80, r81, -⟩ := hρ
  simp only [lst, Nat.reduceAdd, r1, r4, r6, r9, r10, r12, r13, r51, r52, r53, r79, r80, r81]
  clear r1 r4 r6 r9 r10 r12 r13 r51 r52 r53 r79 r80 r81 hF
  go_wp2
  refine wp_loop_ghost_k (fun g A' W => ∃ (k : Nat) (A1 : Option Addr) (n1 d1 : Nat), k ≤ n ∧ n - k ≤ g ∧ Fr 103 [(1, .pointer (some ⟨b1, 0, none⟩)), (4, v4), (6, v6), (9, v9), (10, .slice A1 n1 d1), (12, .int .i64 h0), (13, .map (some bm)), (51, v51), (52, v52), (53, v53), (79, .slice A n cp), (80, .int .i64 (n : Int)), (81, .int .i64 (k : Int))] [] A' ∧
    Below B w W ∧ MapI W bm K cnt ∧ Own encHd 99 3 W B (.slice A1 n1 d1) (out0 ++ outTo c h0 row k)) n ?_ ?_
  · exact ⟨0, A0, n0, d0, by omega, by omega, ⟨rfl, rfl, by simp [Act.eval]⟩, Below.refl _ _, HM.out, by simpa [outTo] using HO.out⟩
  · rintro g A' W ⟨k, A1, n1, d1, hk, hg, hF, hE, hM, hO⟩ J K' hJ hK
    have HJ := Lib.hid hJ; have EW := Lib.hid hE; have MW := Lib.hid hM; have OW := Lib.hid hO
    obtain ⟨ρ, rfl, hρ⟩ := hF.open_
    simp only [List.forall_mem_cons] at hρ
    obtain ⟨r1, r4, r6, r9, r10, r12, r13, r51, r52, r53, r79, r80, r81, -⟩ := hρ
    simp only [lst, Nat.reduceAdd, r1, r4, r6, r9, r10, r12, r13, r51, r52, r53, r79, r80, r81]
    clear r1 r4 r6 r9 r10 r12 r13 r51 r52 r53 r79 r80 r81 hF hE hM hO hJ
    have hz := EW.out.size
    by_cases hkn : k < n
    · have hkz : (k : Int) < (n : Int) := by omega
      have HHW := Lib.hid (HH.out.below EW.out HHB.out)
      obtain ⟨bh, oh, th, rfl, hth, -, hcell⟩ := HHW.out.at_ hkn
      have ch := SlI.cell hcell (Ext.refl _)
      obtain ⟨y, hyc⟩ : ∃ y, cnt th = y := ⟨_, rfl⟩
      have hy := HROW.out k th hth
      have hy0 := HCB.out th
      rw [hyc] at hy hy0
      have hkb : In64 th := by have := rising_gt HR.out.hr th (List.mem_of_getElem? hth); unfold In64; omega
      have HST := Lib.hid (outTo_succ (h := h0) hth hy)
      have hlk := MW.out.look hkb
      rw [hyc] at hlk
      obtain ⟨b0, b1', bf, bl⟩ := (show Blk W b1 _ _ from (EW.out.block b1 hb3).trans HB.out).c2
      have hlen := outTo_len c h0 row k
      clear hcell hth hy hyc
      by_cases h0y : y = 0
      · subst h0y
        go_wp2
        exact Handed.intro (n - (k + 1)) (by omega) (HJ.out _ _ _ ⟨k + 1, A1, n1, d1, by omega, Nat.le_refl _, ⟨rfl, rfl, by simp [Act.eval]⟩, EW.out.alloc (by omega) _, MW.out.alloc _, by rw [HST.out, if_neg (by omega), List.append_nil]; exact OW.out.alloc _⟩)
      · have h1 : (y == 0) = false := by simpa using h0y
        have HYP := Lib.hid (show 0 < y by omega)
        go_wp2_with (at_builtin; refine wpList_app encHd 41 99 3 _ 24 Tryd.underlying41 info99x rfl (by decide) (by decide) (fun _ => rfl) encHd_1 rfl (.tmp 96) (.tmp 98) rfl B _ (out0 ++ outTo c h0 row k) rfl ((OW.out.alloc _).alloc _) (W.heap.size + 1) 1 ⟨h0, th, y⟩ rfl (cells3h (by simp [go_sem]) (by simp [go_sem]) (by simp [go_sem])) (by simp; omega) (by simp; omega) ?_)
        intro g9 cap w9 hown hg9 hbel hgr
        have HO9 := Lib.hid hown
        have HE9 := Lib.hid (show Below B w w9 from ((EW.out.alloc (by omega) _).alloc (by simp; omega) _).trans hbel)
        have HM9 := Lib.hid (show MapI w9 bm K cnt from ((MW.out.alloc _).alloc _).at_ (hgr.block bm (by have := MW.out.lt; simp; omega) (own_neC OW.out MW.out.noC)))
        clear hown hbel hgr b0 b1' bf bl ch hlk
        go_wp2
        exact Handed.intro (n - (k + 1)) (by omega) (HJ.out _ _ _ ⟨k + 1, _, _, _, by omega, Nat.le_refl _, ⟨rfl, rfl, by simp [Act.eval]; first | done | exact ⟨rfl, rfl, rfl⟩⟩, HE9.out, HM9.out, by rw [HST.out, if_pos HYP.out]; exact HO9.out⟩)
    · have HE := Lib.hid (show k = n by omega)
      go_wp2
      have ho := OW.out
      rw [outTo_all (by have := HE.out; have := HN.out; omega)] at ho
      exact HQ.out _ _ A1 n1 d1 ⟨rfl, rfl, by simp [Act.eval]⟩ EW.out ho
end Go.Proofs.YtafdbgielmlihaaDoor
/- The reference's Hands, whole. -/
namespace Go.Proofs.YtafdbgielmlihaaDoor
open Go.RowKit Go.Shelf Go.Lib
set_option maxRecDepth 100000
set_option linter.unusedSimpArgs false

/-- What is handed, and an error. -/
def HandE (l : List Hnd) (E : Int) (w : World) (e : Ending) (w' : World) : Prop := (∃ v, e = .returned (.tuple #[v, .int .i64 E]) ∧ Sl encHd 3 w' v l) ∧ Ext w w'
end Go.Proofs.YtafdbgielmlihaaDoor
/- The program's Hands, whole. -/
namespace Go.Proofs.YtafdbgielmlihaaDoor
open Go.RowKit Go.Shelf Go.Lib
set_option maxRecDepth 100000
set_option linter.unusedSimpArgs false

theorem HopW.below {c : Chn} {b1 b4 b9 mb gm n2 cp2 N2 M2 B : Nat} {A2 : Option Addr} {v1 hv' sv' cv' : Value} {m : List Int} {W W' : World} (h : HopW c b1 b4 b9 mb gm n2 cp2 N2 M2 A2 v1 hv' sv' cv' m W) (k : Below B W W')
    (h1 : b1 < B) (h4 : b4 < B) (hm : mb < B) (h9 : b9 < B) (hg : gm < B) (hs : 0 < c.sales.length → ∀ b o, A2 = some ⟨b, o, none⟩ → b < B) : HopW c b1 b4 b9 mb gm n2 cp2 N2 M2 A2 v1 hv' sv' cv' m W' :=
  ⟨(k.block b1 h1).trans h.ch, (k.block b4 h4).trans h.mp, (k.block mb hm).trans h.mkt, (k.block b9 h9).trans h.fn, (k.block gm hg).trans h.row, h.sl.below k hs, h.x1, h.x4, h.xm, h.x9, h.xs⟩
theorem OffB.far3 {gm bo bm : Nat} {X W U : World} {o : Obj} (h : OffB (fun i => i = gm ∨ i = bo) X W) (k : OffB (fun i => i = gm ∨ i = bm ∨ i = bo) (W.alloc o) U) (hb : X.heap.size ≤ bm) : OffB (fun i => i = gm ∨ i = bo) X U :=
  ⟨k.os.trans h.os, k.tape.trans h.tape, k.output.trans h.output, Nat.le_trans h.size (Nat.le_trans (by simp) k.size), fun i hi hs => (k.block i (by have := h.size; simp; omega) (by
    rintro (h1 | h1 | h1)
    · exact hs (.inl h1)
    · omega
    · exact hs (.inr h1))).trans (((Ext.al W o).block i (by have := h.size; omega)).trans (h.block i hi hs))⟩
theorem OffB.below {S : Nat → Prop} {X W U : World} (h : OffB S X W) (k : Below X.heap.size W U) : OffB S X U :=
  ⟨k.os.trans h.os, k.tape.trans h.tape, k.output.trans h.output, Nat.le_trans h.size k.size, fun i hi hs => (k.block i hi).trans (h.block i hi hs)⟩
/-- What the loop over the houses keeps. -/
structure HdW (c : Chn) (l : List Int) (b1 b4 b9 mb gm bo n2 cp2 N2 M2 : Nat) (A2 : Option Addr) (v1 hv' sv' cv' : Value) (X0 : World) (k : Nat) (v : Value) (W : World) : Prop where
  off : OffB (fun i => i = gm ∨ i = bo) X0 W
  hop : HopW c b1 b4 b9 mb gm n2 cp2 N2 M2 A2 v1 hv' sv' cv' (handsTo c l (getsL c l) k).1 W
  owe : ∃ f nn, MapI W bo nn f ∧ OweAt c (getsL c l) k 0 f ∧ nn ≤ 10 + 1000 * k
  out : Own encHd 99 3 W X0.heap.size v (handsTo c l (getsL c l) k).2
/-- What is handed, in new memory, and an error. -/
def HandN (l : List Hnd) (E : Int) (w : World) (e : Ending) (w' : World) : Prop := (∃ v, e = .returned (.tuple #[v, .int .i64 E]) ∧ Sl encHd 3 w' v l ∧ NewAt w.heap.size v) ∧ Ext w w'
set_option maxHeartbeats 8000000 in
theorem hands_own (c : Chn) (l : List Int) (hv sv : Value) (w : World) (hcl : CloseOf c l) (hT : Tab w) (hh : SlI w hv c.houses) (hs : SlL w sv c.sales) (hl : c.sales.length ≤ 1000) :
    Calls Tryd.prog 30 #[valC hv sv] w (HandN (handsL c l) (errB (checkP c) 60) w) := by
  have HT := Lib.hid hT; have HH := Lib.hid hh; have HS := Lib.hid hs; have HL := Lib.hid hl
  obtain ⟨A, n, cp, rfl, hn, hlc, hcm⟩ := hh.form
  obtain ⟨A2, n2, cp2, rfl, hn2, hlc2, hcm2⟩ := hs.form
  clear hh hs hT hl
  cases hc : checkP c with
  | false =>
    have HO := Lib.hid (show handsL c l = [] by unfold handsL; rw [hc]; rfl)
    have HCK := Lib.hid hc
    clear hcl hc
    go_enter Tryd.func30, Tryd.ntmps30
    go_wp2_with fail
    refine (opened_no c _ _ _ (HT.out.ext (Ext.al _ _)) (HH.out.ext (Ext.al _ _)) (HS.out.ext (Ext.al _ _)) HL.out HCK.out).mono ?_
    rintro e w1 ⟨rfl, hE⟩
    have E1 := Lib.hid ((Ext.al w _).trans hE); clear hE
    go_wp2
    go_ret2
    exact ⟨⟨.slice none 0 0, by rfl, by rw [HO.out]; exact Sl.nil _, NewAt.nil _ _⟩, E1.out.alloc _⟩
  | true =>
    have HPL := Lib.hid (show handsL c l = (handsTo c l (getsL c l) c.houses.length).2 by unfold handsL; rw [hc]; rfl)
    have HO := Lib.hid (hcl.1 hc)
    have HCLO := Lib.hid hcl
    have HCK := Lib.hid hc
    have HR := Lib.hid (check_right hc).1
    have HS10 := Lib.hid (check_right hc).2
    have B0 := Lib.hid (show Blk (w.alloc (.cells #[.slice A n cp, .slice A2 n2 cp2] 25)) w.heap.size 25 #[.slice A n cp, .slice A2 n2 cp2] from Blk.new _ _ _)
    clear hcl hc
    go_enter Tryd.func30, Tryd.ntmps30
    go_wp2_with fail
    refine (opened_yes c l _ _ _ HCLO.out (HT.out.ext (Ext.al _ _)) (HH.out.ext (Ext.al _ _)) (HS.out.ext (Ext.al _ _)) HCK.out).mono ?_
    rintro e w2 ⟨mb, gm, hv', sv', cv', rfl, hE, h1, h2, h3, h4, h5, h6'⟩
    have HLN := Lib.hid (close_len HO.out)
    obtain ⟨N2, hN2⟩ : ∃ N2, c.sales.length = N2 := ⟨_, rfl⟩
    rw [hN2] at h3
    have hlN : l.length = N2 := by have := HLN.out; omega
    have rm := fun w => run_makeMap (P := Tryd.prog) 117 w
    obtain ⟨V, hV⟩ : ∃ V, V = (w2.alloc (.cells #[.pointer (some ⟨mb, 0, none⟩)] 109)).alloc (.map #[] 0) := ⟨_, rfl⟩
    have hzV : V.heap.size = w2.heap.size + 2 := by rw [hV]; simp
    have E2V := Lib.hid (show Ext w2 V from hV ▸ (Ext.al _ _).alloc _)
    have EV := Lib.hid (((Ext.al w _).trans hE).trans E2V.out)
    have B1V := Lib.hid ((B0.out.ext hE).ext E2V.out)
    have BPV := Lib.hid (show Blk V w2.heap.size 109 #[.pointer (some ⟨mb, 0, none⟩)] from hV ▸ (Blk.new _ _ _).alloc _)
    have MV := Lib.hid (h3.ext E2V.out); have RV := Lib.hid (h4.ext E2V.out); have HV' := Lib.hid (h5.ext E2V.out); have SV' := Lib.hid (h6'.ext E2V.out)
    have OV := Lib.hid (show MapI V (w2.heap.size + 1) 0 fun _ => 0 from by
      have := MapI.made (w2.alloc (.cells #[.pointer (some ⟨mb, 0, none⟩)] 109))
      rw [World.size_alloc] at this
      exact hV ▸ this)
    have LV := Lib.hid (show SlI V (.slice (some ⟨gm, 0, none⟩) N2 N2) l from by
      have := RV.out.sl (by rw [hlN]; have := HS10.out; unfold maxLen; omega)
      rwa [hlN] at this)
    have hgw : gm < w2.heap.size := h4.lt
    have hmw : mb < w2.heap.size := h3.lt
    have hww := hE.size
    rw [World.size_alloc] at h1 h2 hww
    clear hE h3 h4 h5 h6'
    go_wp2
    simp only [← hV]
    clear hV
    have m0 := fun W (h : Ext V W) => (BPV.out.ext h).c1
    have m1 := fun W (h : Ext V W) => (MV.out.ext h).c4
    refine wp_region_tame (fun W => Ext V W) (fun W W' => Ext W W') (by kernel_rfl) 103 rfl (by decide +kernel) (Ext.refl _).drew ?_
    repeat (apply tame_q rfl; (intro ρ W hC hr hD; (obtain ⟨hrc, hrg, hrf, hrs⟩ := hr); (simp [go_sem] at hD); go_simp; first | exact ⟨⟨hC, Ext.refl _⟩, rfl⟩ | exact ⟨⟨hC, RS.refl _⟩, rfl⟩ | exact rfl); simp only [List.nil_append, List.cons_append])
    apply tame_v rfl (RowV V.heap.size (getsL c l)) (fun v W W' _ hE h => h.ext hE)
    · intro ρ W hC hr hD
      obtain ⟨hrc, hrg, hrf, hrs⟩ := hr
      simp [go_sem] at hD
      have hz := hC.size
      clear m0 m1
      go_simp
      refine (mgets_any c l mb _ _ _ _ _ W (MV.out.ext hC) (HV'.out.ext hC) (SV'.out.ext hC) (LV.out.ext hC) HR.out (by have := HS10.out; omega) HLN.out (fun y hy => by have := close_nine HR.out HO.out y hy; omega)).mono ?_
      rintro e w' ⟨⟨g, rfl, hg, hr⟩, hE⟩
      exact ⟨_, rfl, ⟨hC.trans hE, hE⟩, ⟨g, rfl, by omega, hr⟩⟩
    simp only [List.nil_append, List.cons_append]
    apply tame_v rfl (fun v _ => v = .int .i64 (n : Int)) (fun v W W' _ _ h => h)
    · intro ρ W hC hr hD
      obtain ⟨hrc, hrg, hrf, hrs⟩ := hr
      simp [go_sem] at hD
      obtain ⟨g, d1, d2, d3⟩ := hD
      clear m0 m1
      go_simp
      exact ⟨⟨hC, Ext.refl _⟩, by rw [gets_len, hn.out]⟩
    simp only [List.nil_append, List.cons_append]
    repeat (apply tame_q rfl; (intro ρ W hC hr hD; (obtain ⟨hrc, hrg, hrf, hrs⟩ := hr); (simp [go_sem] at hD); go_simp; first | exact ⟨⟨hC, Ext.refl _⟩, rfl⟩ | exact ⟨⟨hC, RS.refl _⟩, rfl⟩ | exact rfl); simp only [List.nil_append, List.cons_append])
    refine tame_end_put rfl rfl (fun ρ V2 hC hr hF => ?_)
    simp [go_sem] at hF
    obtain ⟨f1, f2, f3, f4, f5, ⟨g5, f6, hg5, hR5⟩, f7, f8⟩ := hF
    have hgn : (getsL c l).length = n := by rw [gets_len]; exact hn.out.symm
    rw [hgn] at f6
    simp only [putF, f1, f2, f3, f4, f5, f6, f7, f8, List.set_cons_succ, List.set_cons_zero]
    have EV2 := Lib.hid hC; have R5 := Lib.hid hR5
    clear hr f1 f2 f3 f4 f5 f6 f7 f8 m0 m1 hR5 hC
    have hzV2 := EV2.out.size
    have HRC := Lib.hid HR.out
    have hn6 : n ≤ 6 := by have := HR.out.h6; have := hn.out; omega
    have HMV := Lib.hid (show Mvs c l from ⟨HLN.out, close_nine HR.out HO.out⟩)
    have HNE := Lib.hid hn.out
    have HAB := Lib.hid (fun h => HH.out.lt (w := w) h)
    have HSB := Lib.hid (fun h => HS.out.lt (w := w) h)
    have EW2 := Lib.hid (EV.out.trans EV2.out)
    have OV2 := Lib.hid (OV.out.ext EV2.out)
    have B1V2 := Lib.hid (B1V.out.ext EV2.out)
    have HHV2 := Lib.hid (HH.out.ext EW2.out)
    go_wp2
    refine wp_loop_ghost_k (fun g A' W => ∃ (k nn : Nat) (f : Int → Int), k ≤ n ∧ n - k ≤ g ∧ Fr 103 [(1, .pointer (some ⟨w.heap.size, 0, none⟩)), (4, .pointer (some ⟨w2.heap.size, 0, none⟩)), (6, .map (some (w2.heap.size + 1))), (31, .slice (some ⟨g5, 0, none⟩) n n), (32, .int .i64 (n : Int)), (33, .int .i64 (k : Int))] [] A' ∧
      V2.grownBy W (some (w2.heap.size + 1)) ∧ MapI W (w2.heap.size + 1) nn f ∧ OweTo c (getsL c l) k f ∧ nn ≤ k) n ?_ ?_
    · exact ⟨0, 0, _, by omega, by omega, ⟨rfl, rfl, by simp [Act.eval]⟩, World.grownBy.refl _ _, OV2.out, owe_start _ _, by omega⟩
    · rintro g A' W ⟨k, nn, f, hk, hg, hF, hG, hM, hOT, hnn⟩ J K' hJ hK
      have HJ := Lib.hid hJ; have HG := Lib.hid hG; have HM := Lib.hid hM; have HOT := Lib.hid hOT
      obtain ⟨ρ, rfl, hρ⟩ := hF.open_
      simp only [List.forall_mem_cons] at hρ
      obtain ⟨r1, r4, r6, r31, r32, r33, -⟩ := hρ
      simp only [lst, Nat.reduceAdd, r1, r4, r6, r31, r32, r33]
      clear r1 r4 r6 r31 r32 r33 hF hG hM hOT hJ
      have hzW := HG.out.size
      have NC := Lib.hid OV2.out.noC
      have HHW := Lib.hid (HHV2.out.offC HG.out NC.out)
      have HB1 := Lib.hid (B1V2.out.offC HG.out NC.out)
      by_cases hkn : k < n
      · have hkz : (k : Int) < (n : Int) := by omega
        obtain ⟨bh, oh, h, rfl, hh, -, hcell⟩ := HHW.out.at_ hkn
        have ch := SlI.cell hcell (Ext.refl _)
        obtain ⟨g0, hg0⟩ : ∃ g0, (getsL c l)[k]? = some g0 := ⟨_, List.getElem?_eq_getElem (by omega)⟩
        have hgb := gets_bd HMV.out (by have := HS10.out; omega) g0 (List.mem_of_getElem? hg0)
        have R5W := Lib.hid (show RowI W g5 (getsL c l) from Blk.offC R5.out HG.out NC.out)
        have cg := R5W.out.cell hg0
        have cgf := R5W.out.frozen
        have cgl := R5W.out.lt
        obtain ⟨b0, b1, bf, bl⟩ := HB1.out.c2
        have hkb : In64 h := by have := rising_gt HR.out.hr h (List.mem_of_getElem? hh); unfold In64; omega
        have hw1 : IntKind.i64.wrap (-g0) = -g0 := by rw [IntKind.wrap_i64]; omega
        have HHK := Lib.hid hh; have HGK := Lib.hid hg0
        clear hcell hh hg0
        by_cases hneg : g0 < 0
        · obtain ⟨W2, s2, hM2, hG2⟩ := HM.out.store hkb (by omega) (v := -g0) (by unfold In64; omega)
          have HM2 := Lib.hid hM2; have HG2 := Lib.hid (grown_tr HG.out hG2)
          have HOT2 := Lib.hid (owe_put HR.out HOT.out HHK.out HGK.out hneg)
          clear hM2 hG2
          go_wp2
          exact Handed.intro (n - (k + 1)) (by omega) (HJ.out _ _ _ ⟨k + 1, nn + 1, _, by omega, Nat.le_refl _, ⟨rfl, rfl, by simp [Act.eval]⟩, HG2.out, HM2.out, HOT2.out, by omega⟩)
        · have HOT2 := Lib.hid (owe_skip HOT.out HGK.out hneg)
          go_wp2
          exact Handed.intro (n - (k + 1)) (by omega) (HJ.out _ _ _ ⟨k + 1, nn, f, by omega, Nat.le_refl _, ⟨rfl, rfl, by simp [Act.eval]⟩, HG.out, HM.out, HOT2.out, by omega⟩)
      · have HE := Lib.hid (show k = n by omega)
        have HOA := Lib.hid (owe_full HOT.out (by have := HE.out; have := HNE.out; omega))
        obtain ⟨X0, hX0⟩ : ∃ X0, X0 = W.alloc (.cells #[.func (.func 80) #[] #[.pointer (some ⟨w.heap.size, 0, none⟩), .pointer (some ⟨w2.heap.size, 0, none⟩), .pointer (some ⟨W.heap.size, 0, none⟩)]] 118) := ⟨_, rfl⟩
        have EX := Lib.hid (show Ext W X0 from hX0 ▸ Ext.al _ _)
        have BF := Lib.hid (show Blk X0 W.heap.size 118 #[.func (.func 80) #[] #[.pointer (some ⟨w.heap.size, 0, none⟩), .pointer (some ⟨w2.heap.size, 0, none⟩), .pointer (some ⟨W.heap.size, 0, none⟩)]] from hX0 ▸ Blk.new _ _ _)
        have hzX : X0.heap.size = W.heap.size + 1 := by rw [hX0]; simp
        have HB1X := Lib.hid (HB1.out.ext EX.out)
        have HOP := Lib.hid (show HopW c w.heap.size w2.heap.size W.heap.size mb gm n2 cp2 N2 N2 A2 (.slice A n cp) hv' sv' cv' l X0 from
          ⟨HB1X.out, ((BPV.out.ext EV2.out).offC HG.out NC.out).ext EX.out, ((MV.out.ext EV2.out).offC HG.out NC.out).ext EX.out, BF.out, (show RowI W gm l from Blk.offC (RV.out.ext EV2.out) HG.out NC.out).ext EX.out, ((HS.out.ext EW2.out).offC HG.out NC.out).ext EX.out,
            by omega, by omega, Blk.ne MV.out RV.out (by decide), by omega, fun h b o e => by have := HSB.out h b o e; omega⟩)
        have HMX := Lib.hid (HM.out.ext EX.out)
        have EWX := Lib.hid (show Ext w X0 from (ext_grown EW2.out HG.out (by omega)).trans EX.out)
        obtain ⟨b0, b1, bf, bl⟩ := HB1.out.c2
        go_wp2
        simp only [← hX0]
        clear b0 b1 bf bl hX0
        refine wp_loop_ghost_k (fun g A' W' => ∃ (k : Nat) (A1 : Option Addr) (n1 d1 : Nat), k ≤ n ∧ n - k ≤ g ∧ Fr 103 [(1, .pointer (some ⟨w.heap.size, 0, none⟩)), (4, .pointer (some ⟨w2.heap.size, 0, none⟩)), (6, .map (some (w2.heap.size + 1))), (9, .pointer (some ⟨W.heap.size, 0, none⟩)), (10, .slice A1 n1 d1), (51, .slice A n cp), (52, .int .i64 (n : Int)), (53, .int .i64 (k : Int))] [] A' ∧
          HdW c l w.heap.size w2.heap.size W.heap.size mb gm (w2.heap.size + 1) n2 cp2 N2 N2 A2 (.slice A n cp) hv' sv' cv' X0 k (.slice A1 n1 d1) W') n ?_ ?_
        · exact ⟨0, none, 0, 0, by omega, by omega, ⟨rfl, rfl, by simp [Act.eval]⟩, OffB.refl _ _, HOP.out, ⟨f, nn, HMX.out, HOA.out, by omega⟩, Own.nil _ _⟩
        · rintro g A' W' ⟨k, A1, n1, d1, hk, hg, hF, hD⟩ J K' hJ hK
          have HJ := Lib.hid hJ; have HD := Lib.hid hD
          have hzW' := hD.off.size
          obtain ⟨f2, nn2, hM2, hOA2, hnn2⟩ := hD.owe
          have HM2 := Lib.hid hM2; have HOA2 := Lib.hid hOA2
          obtain ⟨ρ, rfl, hρ⟩ := hF.open_
          simp only [List.forall_mem_cons] at hρ
          obtain ⟨r1, r4, r6, r9, r10, r51, r52, r53, -⟩ := hρ
          simp only [lst, Nat.reduceAdd, r1, r4, r6, r9, r10, r51, r52, r53]
          clear r1 r4 r6 r9 r10 r51 r52 r53 hF hD hM2 hOA2 hJ
          have EW' := Lib.hid (ext_off EWX.out HD.out.off (fun i hi => by rintro (h | h) <;> omega))
          by_cases hkn : k < n
          · have hkz : (k : Int) < (n : Int) := by omega
            have HHW' := Lib.hid (HH.out.ext EW'.out)
            obtain ⟨bh, oh, h, rfl, hh, -, hcell⟩ := HHW'.out.at_ hkn
            have ch := SlI.cell hcell (Ext.refl _)
            obtain ⟨g0, hg0⟩ : ∃ g0, (getsL c l)[k]? = some g0 := ⟨_, List.getElem?_eq_getElem (by omega)⟩
            have hgb := gets_bd HMV.out (by have := HS10.out; omega) g0 (List.mem_of_getElem? hg0)
            have HHK := Lib.hid hh; have HGK := Lib.hid hg0
            have HHM := Lib.hid (List.mem_of_getElem? hh)
            obtain ⟨hto1, hto2⟩ := handsTo_ok HR.out HMV.out (gets_len c l) k (by have := HNE.out; omega)
            have HTO1 := Lib.hid hto1
            have HST := Lib.hid (handsTo_succ (c := c) (l := l) hh hg0)
            have hCR := cnt_row HR.out HHM.out hto1 (-g0).toNat
            have HCR := Lib.hid hCR
            obtain ⟨K, hKK⟩ : ∃ K, (-g0).toNat = K := ⟨_, rfl⟩
            rw [hKK] at HST HCR
            have HKK := Lib.hid hKK
            clear hcell hh hg0 hto1 hCR hKK
            go_upto_block 4 with (fail)
            clear ch
            refine bales4_wp (c := c) (m0 := (handsTo c l (getsL c l) k).1) (gets := getsL c l) (k := k) (K := K) (h0 := h) (g0 := g0) (b1 := w.heap.size) (b4 := w2.heap.size) (b9 := W.heap.size) (mb := mb) (gm := gm) (n2 := n2) (cp2 := cp2) (N2 := N2) (M2 := N2) (bm := W'.heap.size) (bo := w2.heap.size + 1) (nn := nn2) (A2 := A2) (v1 := .slice (some ⟨bh, oh, none⟩) n cp) (hv' := hv') (sv' := sv') (cv' := cv') (f0 := f2)
              (v10 := .slice A1 n1 d1) (v51 := .slice (some ⟨bh, oh, none⟩) n cp) (v52 := .int .i64 (n : Int)) (v53 := .int .i64 (k : Int))
              HR.out (by have := HS10.out; omega) hN2.symm HHK.out HGK.out HKK.out.symm (by have := HKK.out; omega) HTO1.out ⟨rfl, rfl, by simp [Act.eval]⟩ (HD.out.hop.ext (Ext.al _ _)) (MapI.made _) (HM2.out.ext (Ext.al _ _)) HOA2.out (by omega) (by omega) ?_
            intro A3 W3 f3 hF3 hOff3 hHop3 hM3 hO3 hOA3
            have OFX := Lib.hid (HD.out.off.far3 hOff3 hzW')
            have OUT3 := Lib.hid (show Own encHd 99 3 W3 X0.heap.size (.slice A1 n1 d1) (handsTo c l (getsL c l) k).2 from
              own_same (HD.out.out.alloc _) fun g hg => hOff3.block g (own_rng (HD.out.out.alloc _) hg).2 (by
                have := own_rng HD.out.out hg
                rintro (h | h | h) <;> omega))
            have HP3 := Lib.hid hHop3; have HM3 := Lib.hid hM3; have HO3 := Lib.hid hO3; have HOA3 := Lib.hid hOA3
            have hz3 := hOff3.size
            rw [World.size_alloc] at hz3
            have EW3 := Lib.hid (ext_off EWX.out OFX.out (fun i hi => by rintro (h | h) <;> omega))
            have HHW3 := Lib.hid (HH.out.ext EW3.out)
            obtain ⟨ρ, rfl, hρ⟩ := hF3.open_
            simp only [List.forall_mem_cons] at hρ
            obtain ⟨r1, r4, r6, r9, r10, r12, r13, r51, r52, r53, -⟩ := hρ
            simp only [lst, Nat.reduceAdd, r1, r4, r6, r9, r10, r12, r13, r51, r52, r53]
            clear r1 r4 r6 r9 r10 r12 r13 r51 r52 r53 hF3 hOff3 hHop3 hM3 hO3 hOA3 HM2 HOA2
            obtain ⟨b0, b1, bf, bl⟩ := HP3.out.ch.c2
            go_upto_block 6 with (fail)
            clear b0 b1 bf bl
            refine outp6_wp (c := c) (row := (handRow c h K ((handsTo c l (getsL c l) k).1, List.replicate c.houses.length 0)).2) (cnt := (cntTo c h (handsTo c l (getsL c l) k).1 K).2) (out0 := (handsTo c l (getsL c l) k).2) (h0 := h) (b1 := w.heap.size) (bm := W'.heap.size) (K := K) (B := X0.heap.size) (A := some ⟨bh, oh, none⟩) (n := n) (cp := cp) (v2 := .slice A2 n2 cp2) (A0 := A1) (n0 := n1) (d0 := d1)
              (v4 := .pointer (some ⟨w2.heap.size, 0, none⟩)) (v6 := .map (some (w2.heap.size + 1))) (v9 := .pointer (some ⟨W.heap.size, 0, none⟩)) (v51 := .slice (some ⟨bh, oh, none⟩) n cp) (v52 := .int .i64 (n : Int)) (v53 := .int .i64 (k : Int))
              HR.out HNE.out hn6 (by omega) (by omega) (by omega) (fun t => (cnt_bd _ _ _ _ _).1) HCR.out.2 ⟨rfl, rfl, by simp [Act.eval]⟩ HP3.out.ch HHW3.out (fun h b o e => by have := HAB.out h b o e; omega) HM3.out OUT3.out ?_
            intro A4 W4 A5 n5 d5 hF4 hBel hO4
            have HD4 := Lib.hid (show HdW c l w.heap.size w2.heap.size W.heap.size mb gm (w2.heap.size + 1) n2 cp2 N2 N2 A2 (.slice (some ⟨bh, oh, none⟩) n cp) hv' sv' cv' X0 (k + 1) (.slice A5 n5 d5) W4 from
              ⟨OFX.out.below hBel, by
                rw [HST.out]
                dsimp only
                rw [← HCR.out.1]
                exact HP3.out.below hBel (by omega) (by omega) (by omega) (by omega) (by omega) (fun h b o e => by have := HSB.out h b o e; omega),
                ⟨f3, nn2 + K, HO3.out.at_ (hBel.block _ (by omega)), HOA3.out, by have := HKK.out; omega⟩, by rw [HST.out]; exact hO4⟩)
            obtain ⟨ρ, rfl, hρ⟩ := hF4.open_
            simp only [List.forall_mem_cons] at hρ
            obtain ⟨r1, r4, r6, r9, r10, r51, r52, r53, -⟩ := hρ
            simp only [lst, Nat.reduceAdd, r1, r4, r6, r9, r10, r51, r52, r53]
            clear r1 r4 r6 r9 r10 r51 r52 r53 hF4 hBel hO4
            go_wp2
            exact Handed.intro (n - (k + 1)) (by omega) (HJ.out _ _ _ ⟨k + 1, A5, n5, d5, by omega, Nat.le_refl _, ⟨rfl, rfl, by simp [Act.eval]⟩, HD4.out⟩)
          · have HE := Lib.hid (show k = n by omega)
            go_wp2
            go_ret2
            refine ⟨⟨.slice A1 n1 d1, by rfl, ?_, HD.out.out.newAt.mono EWX.out.size⟩, EW'.out⟩
            have := HD.out.out
            rw [HPL.out, ← HNE.out, ← HE.out]
            exact this.sl (fun _ => rfl)
theorem hands_any (c : Chn) (l : List Int) (hv sv : Value) (w : World) (hcl : CloseOf c l) (hT : Tab w) (hh : SlI w hv c.houses) (hs : SlL w sv c.sales) (hl : c.sales.length ≤ 1000) :
    Calls Tryd.prog 30 #[valC hv sv] w (HandE (handsL c l) (errB (checkP c) 60) w) :=
  (hands_own c l hv sv w hcl hT hh hs hl).mono fun _ _ ⟨⟨v, h1, h2, _⟩, h3⟩ => ⟨⟨v, h1, h2⟩, h3⟩
end Go.Proofs.YtafdbgielmlihaaDoor
/- Pays: the program's. -/
namespace Go.Proofs.YtafdbgielmlihaaDoor
open Go.RowKit Go.Shelf Go.Lib
set_option maxRecDepth 100000
set_option linter.unusedSimpArgs false

theorem payN_bd {c : Chn} {l : List Int} {p : Int} (hR : Right c) (hl : ∀ y ∈ l, 0 ≤ y ∧ y ≤ 9) (hp : 0 ≤ p ∧ p ≤ 1000000) : ∀ y ∈ payN c l p, -30000000 ≤ y ∧ y ≤ 30000000 := by
  intro y hy
  unfold payN at hy
  obtain ⟨⟨x, z⟩, hz, rfl⟩ := List.mem_map.1 hy
  obtain ⟨h1, h2⟩ := List.of_mem_zip hz
  obtain ⟨-, -, -, hb, hpr⟩ := hR.sale x h1
  have hz9 := hl z h2
  dsimp only
  have h3 := Int.mul_le_mul_of_nonneg_left (a := x.bales - z + 9) (b := 18) (c := 1000000) (by omega) (by decide)
  have h4 := mul_bd (a := x.price - p) (b := x.bales - z + 9) (A := 1000000) (B := 18) (by omega) (by omega) (by decide)
  have h5 : (x.price - p) * (x.bales - z + 9) = (x.price - p) * (x.bales - z) + (x.price - p) * 9 := Int.mul_add _ _ _
  omega
set_option maxHeartbeats 4000000 in
theorem pays_any (c : Chn) (l : List Int) (p : Int) (hv sv : Value) (w : World) (hcl : CloseOf c l) (hT : Tab w) (hh : SlI w hv c.houses) (hs : SlL w sv c.sales) (hl : c.sales.length ≤ 1000) :
    Calls Tryd.prog 37 #[valC hv sv, .int .i64 p] w (ListE (paysL c l p) (paysE c p) w) := by
  have HT := Lib.hid hT; have HH := Lib.hid hh; have HS := Lib.hid hs; have HL := Lib.hid hl
  obtain ⟨A, n, cp, rfl, hn, hlc, hcm⟩ := hh.form
  obtain ⟨A2, n2, cp2, rfl, hn2, hlc2, hcm2⟩ := hs.form
  have B0 := Lib.hid (show Blk (w.alloc (.cells #[.slice A n cp, .slice A2 n2 cp2] 25)) w.heap.size 25 #[.slice A n cp, .slice A2 n2 cp2] from Blk.new _ _ _)
  clear hh hs hT hl
  go_enter Tryd.func37, Tryd.ntmps37
  go_wp2_with fail
  refine (check_any c _ _ _ (HT.out.ext (Ext.al _ _)) (HH.out.ext (Ext.al _ _)) (HS.out.ext (Ext.al _ _)) HL.out).mono ?_
  rintro e w1 ⟨rfl, hE⟩
  have E1 := Lib.hid ((Ext.al w _).trans hE); have B1 := Lib.hid (B0.out.ext hE)
  clear hE
  cases hc : checkP c with
  | false =>
    have HO := Lib.hid (show paysL c l p = [] ∧ paysE c p = 60 by unfold paysL paysE paysB; rw [hc]; exact ⟨rfl, rfl⟩)
    clear hcl hc
    dsimp only [errB]
    go_wp2
    go_ret2
    exact ⟨⟨.slice none 0 0, by rw [HO.out.2]; rfl, by rw [HO.out.1]; exact Sl.nil _⟩, E1.out⟩
  | true =>
    have HO := Lib.hid (hcl.1 hc)
    have HR := Lib.hid (check_right hc).1
    have HS10 := Lib.hid (check_right hc).2
    have HCK := Lib.hid hc
    clear hcl hc
    dsimp only [errB]
    have hz1 := E1.out.size
    go_wp2_with fail
    refine (in1_any 0 1000000 p w1.heap.size _ (by simp) (by simp [go_sem])).mono ?_
    rintro e w2 ⟨rfl, hE⟩
    have E2 := Lib.hid (E1.out.trans ((Ext.al _ _).trans hE)); have B2 := Lib.hid (B1.out.ext ((Ext.al _ _).trans hE))
    clear hE
    cases hp : inB 0 1000000 p with
    | false =>
      have HO := Lib.hid (show paysL c l p = [] ∧ paysE c p = 62 by unfold paysL paysE paysB; rw [HCK.out, hp]; exact ⟨rfl, rfl⟩)
      clear hp
      go_wp2
      go_ret2
      exact ⟨⟨.slice none 0 0, by rw [HO.out.2]; rfl, by rw [HO.out.1]; exact Sl.nil _⟩, E2.out⟩
    | true =>
      have HP := Lib.hid (show paysL c l p = getsL c (payN c l p) ∧ paysE c p = 0 by unfold paysL paysE paysB; rw [HCK.out, hp]; exact ⟨rfl, rfl⟩)
      have hpb := inB_iff.1 hp
      clear hp
      have x0 := B2.out.c2
      have hz2 := E2.out.size
      go_wp2_with fail
      refine (closing_any c l _ _ _ HO.out HR.out (by have := HS10.out; omega) (HH.out.ext E2.out) (HS.out.ext E2.out)).mono ?_
      rintro e w3 ⟨mb, gm, hv', sv', cv', rfl, hE, h1, h2, h3, h4, h5, h6'⟩
      have E3 := Lib.hid (E2.out.trans hE); have B3 := Lib.hid (B2.out.ext hE)
      have hz3 := hE.size
      obtain ⟨N2, hN2⟩ : ∃ N2, c.sales.length = N2 := ⟨_, rfl⟩
      rw [hN2] at h3
      have HLN := Lib.hid (close_len HO.out)
      have hnN : n2 = N2 := by have := hn2.out; omega
      subst hnN
      have HN2 := Lib.hid hN2
      have hmlt := h3.lt; have hglt := h4.lt
      obtain ⟨A3, n3, cp3, rfl, -, -, -⟩ := h5.form
      have BM := Lib.hid h3; have RM := Lib.hid h4; have HH' := Lib.hid h5
      have HAB := Lib.hid (fun h => HH'.out.lt h)
      have hn6 : n ≤ 6 := by have := HR.out.h6; have := hn.out; omega
      have hn10 : n2 ≤ 10 := by have := HS10.out; omega
      have hmk := fun w => run_makeI (n := n) (by omega) w
      clear hE h3 h4 h5 h6' x0 hN2
      have x0 := B3.out.c2
      have HM := Lib.hid (payN_len HLN.out p)
      have HMB := Lib.hid (payN_bd HR.out (close_nine HR.out HO.out) hpb)
      have HZ := Lib.hid (show netTo c (payN c l p) 0 = List.replicate n 0 by rw [netTo_zero, hn.out])
      have HSB := Lib.hid (fun h => HS.out.lt (w := w) h)
      obtain ⟨w4, hw4⟩ : ∃ w4, w4 = w3.alloc (.cells (intsA (List.replicate n 0)) 3) := ⟨_, rfl⟩
      have E4 := Lib.hid (show Ext w3 w4 from hw4 ▸ Ext.al _ _)
      have R4 := Lib.hid (show RowI w4 w3.heap.size (List.replicate n 0) from hw4 ▸ Blk.new _ _ _)
      have hz4 : w4.heap.size = w3.heap.size + 1 := by rw [hw4]; simp
      have hbw := B3.out.lt
      go_wp2
      simp only [← hw4]
      clear x0 hmk hw4
      refine wp_loop_ghost_k (fun g A' W => ∃ (kk : Nat), kk ≤ n2 ∧ n2 - kk ≤ g ∧ Fr 72 [(1, .int .i64 p), (2, .pointer (some ⟨w.heap.size, 0, none⟩)), (7, .pointer (some ⟨mb, 0, none⟩)), (8, .slice (some ⟨w3.heap.size, 0, none⟩) n n), (28, .slice A2 n2 cp2), (29, .int .i64 (n2 : Int)), (30, .int .i64 (kk : Int))] [] A' ∧
        w4.grownBy W (some w3.heap.size) ∧ RowI W w3.heap.size (netTo c (payN c l p) kk)) n2 ?_ ?_
      · exact ⟨0, by omega, by omega, ⟨rfl, rfl, by simp [Act.eval]⟩, World.grownBy.refl _ _, by rw [HZ.out]; exact R4.out⟩
      · rintro g A' U ⟨kk, hkk, hg, hF, hG, hRw⟩ J K' hJ hK
        have HJ := Lib.hid hJ; have HG := Lib.hid hG; have RW := Lib.hid hRw
        have hzW := hG.size
        obtain ⟨ρ, rfl, hρ⟩ := hF.open_
        simp only [List.forall_mem_cons] at hρ
        obtain ⟨r1, r2, r7, r8, r28, r29, r30, -⟩ := hρ
        simp only [lst, Nat.reduceAdd, r1, r2, r7, r8, r28, r29, r30]
        clear r1 r2 r7 r8 r28 r29 r30 hF hG hRw hJ
        by_cases hlt : kk < n2
        · have hltz : (kk : Int) < (n2 : Int) := by omega
          have HSW := Lib.hid (((HS.out.ext E3.out).ext E4.out).grown HG.out fun h b o e => by have := HSB.out h b o e; omega)
          obtain ⟨b, off, x, rfl, hx, -, hcell⟩ := HSW.out.at_ hlt
          obtain ⟨c0, c1, c2, c3, c4⟩ := SlL.cells hcell (Ext.refl _)
          obtain ⟨y, hy⟩ : ∃ y, l[kk]? = some y := ⟨_, List.getElem?_eq_getElem (by have := HLN.out; have := HN2.out; omega)⟩
          obtain ⟨s, bb, hsi, hbi, hsl, hbl, hne⟩ := sale_at HR.out hx
          obtain ⟨-, -, -, hbal, hpri⟩ := HR.out.sale x (List.mem_of_getElem? hx)
          have hy9 := close_nine HR.out HO.out y (List.mem_of_getElem? hy)
          have hm := payN_get (p := p) hx hy
          have hqb := HMB.out _ (List.mem_of_getElem? hm)
          obtain ⟨q, hq⟩ : ∃ q, (x.price - p) * (x.bales - y) = q := ⟨_, rfl⟩
          rw [hq] at hm hqb
          have HX := Lib.hid hx; have HMq := Lib.hid hm; have HSI := Lib.hid hsi; have HBI := Lib.hid hbi; have HNE := Lib.hid hne
          have KS : ∀ v, -300000000 ≤ net ((salsOf c).take kk) ((payN c l p).take kk) v ∧ net ((salsOf c).take kk) ((payN c l p).take kk) v ≤ 300000000 := fun v => by
            have h1 := net_bd (B := 30000000) v (by decide) ((salsOf c).take kk) ((payN c l p).take kk) fun z hz => HMB.out z (List.mem_of_mem_take hz)
            have h2 : ((payN c l p).take kk).length ≤ 10 := by rw [List.length_take]; omega
            omega
          obtain ⟨P, hP⟩ : ∃ P, net ((salsOf c).take kk) ((payN c l p).take kk) s = P := ⟨_, rfl⟩
          obtain ⟨Q, hQ⟩ : ∃ Q, net ((salsOf c).take kk) ((payN c l p).take kk) bb = Q := ⟨_, rfl⟩
          have hPb := KS s; have hQb := KS bb
          rw [hP] at hPb
          rw [hQ] at hQb
          have HPP := Lib.hid hP; have HQQ := Lib.hid hQ
          have HST := Lib.hid (netTo_step HM.out hx hm hsi hbi hne hP hQ)
          have hwa : IntKind.i64.wrap (x.price - p) = x.price - p := by rw [IntKind.wrap_i64]; omega
          have hwb : IntKind.i64.wrap (x.bales - y) = x.bales - y := by rw [IntKind.wrap_i64]; omega
          have hwc : IntKind.i64.wrap ((x.price - p) * (x.bales - y)) = q := by rw [hq, IntKind.wrap_i64]; omega
          have hw1 : IntKind.i64.wrap (P + q) = P + q := by rw [IntKind.wrap_i64]; omega
          have hw2 : IntKind.i64.wrap (Q - q) = Q - q := by rw [IntKind.wrap_i64]; omega
          have hsz : (s : Int) < (n : Int) := by have := hn.out; omega
          have hbz : (bb : Int) < (n : Int) := by have := hn.out; omega
          have hsz' : s < n := by omega
          have hbz' : bb < n := by omega
          have hkn : kk < n2 := hlt
          clear hx hm hsi hbi hne hP hQ hcell KS hq
          obtain ⟨wx, hwx⟩ : ∃ wx, wx = U.alloc (.cells #[.int .i64 x.number, .int .i64 x.seller, .int .i64 x.buyer, .int .i64 x.bales, .int .i64 x.price] 68) := ⟨_, rfl⟩
          have BX := Lib.hid (show Blk wx U.heap.size 68 #[.int .i64 x.number, .int .i64 x.seller, .int .i64 x.buyer, .int .i64 x.bales, .int .i64 x.price] from hwx ▸ Blk.new _ _ _)
          have GX := Lib.hid (show w4.grownBy wx (some w3.heap.size) from hwx ▸ grown_ext HG.out (Ext.al _ _))
          have RX := Lib.hid (show RowI wx w3.heap.size (netTo c (payN c l p) kk) from hwx ▸ RW.out.alloc _)
          have BMX := Lib.hid ((BM.out.ext E4.out).grown GX.out (by intro e; injection e with e; omega))
          have RMX := Lib.hid (show RowI wx gm l from Blk.grown (RM.out.ext E4.out) GX.out (by intro e; injection e with e; omega))
          have HHX := Lib.hid ((HH'.out.ext E4.out).grown GX.out fun h b o e => by have := HAB.out h b o e; omega)
          have hzx : wx.heap.size = U.heap.size + 1 := by rw [hwx]; simp
          have HY := Lib.hid hy
          have m0 := fun W (h : Ext wx W) => (BX.out.ext h).c5.1
          have m1 := fun W (h : Ext wx W) => (BX.out.ext h).c5.2.1
          have m2 := fun W (h : Ext wx W) => (BX.out.ext h).c5.2.2.1
          have m3 := fun W (h : Ext wx W) => (BX.out.ext h).c5.2.2.2.1
          have m4 := fun W (h : Ext wx W) => (BX.out.ext h).c5.2.2.2.2.1
          have mm := fun W (h : Ext wx W) => (BMX.out.ext h).c4
          have my := fun W (h : Ext wx W) => (RMX.out.ext h).cell HY.out
          clear hy
          go_wp2
          simp only [← hwx]
          clear hwx c0 c1 c2 c3 c4
          refine wp_region_tame (fun W => Ext wx W) (fun W W' => Ext W W') (by kernel_rfl) 72 rfl (by decide +kernel) (Ext.refl _).drew ?_
          repeat (apply tame_q rfl; (intro ρ W hC hr hD; (obtain ⟨hrc, hrg, hrf, hrs⟩ := hr); (simp [go_sem] at hD); go_simp; first | exact ⟨⟨hC, Ext.refl _⟩, rfl⟩ | exact ⟨⟨hC, RS.refl _⟩, rfl⟩ | exact rfl); simp only [List.nil_append, List.cons_append])
          refine tame_end_put rfl rfl (fun ρ W hC hr hF => ?_)
          simp [go_sem] at hF
          simp only [putF, hF, List.set_cons_succ, List.set_cons_zero]
          clear hF hr
          have HC := Lib.hid hC
          clear hC m0 m1 m2 m3 m4 mm my
          have BV := Lib.hid (BX.out.ext HC.out); have RV := Lib.hid (RX.out.ext HC.out); have BMV := Lib.hid (BMX.out.ext HC.out); have HHV := Lib.hid (HHX.out.ext HC.out); have GV := Lib.hid (grown_ext GX.out HC.out)
          have hzV := HC.out.size
          obtain ⟨x0, x1, x2, x3, x4, xf, xl⟩ := BV.out.c5
          go_wp2_with fail
          refine (mhouse_any c x.seller s mb _ _ _ _ W BMV.out HHV.out HSI.out).mono ?_
          rintro e V1 ⟨rfl, hE⟩
          have BV1 := Lib.hid (BV.out.ext hE); have RV1 := Lib.hid (RV.out.ext hE); have BMV1 := Lib.hid (BMV.out.ext hE); have HHV1 := Lib.hid (HHV.out.ext hE); have GV1 := Lib.hid (grown_ext GV.out hE)
          have hzV1 := hE.size
          clear hE x0 x1 x2 x3 x4 xf xl BX RX BMX HHX HC BV RV BMV HHV
          have rs := RV1.out.cell (i := s) (x := P) (by rw [netTo_get hsl, HPP.out])
          have rf := RV1.out.frozen
          have rl := RV1.out.lt
          obtain ⟨V2, hV2⟩ : ∃ V2, V2 = V1.setCell ⟨w3.heap.size, s, none⟩ (.int .i64 (P + q)) := ⟨_, rfl⟩
          have RV2 := Lib.hid (show RowI V2 w3.heap.size ((netTo c (payN c l p) kk).set s (P + q)) from hV2 ▸ RV1.out.set s (P + q))
          have GS := Lib.hid (show V1.grownBy V2 (some w3.heap.size) from hV2 ▸ grown_set (World.grownBy.refl _ _) (p := ⟨w3.heap.size, s, none⟩) (.inl rfl) _)
          have BV2 := Lib.hid (BV1.out.grown GS.out (by intro e; injection e with e; omega))
          have BMV2 := Lib.hid (BMV1.out.grown GS.out (by intro e; injection e with e; omega))
          have HHV2 := Lib.hid (HHV1.out.grown GS.out fun h b o e => by have := HAB.out h b o e; omega)
          have GV2 := Lib.hid (grown_tr GV1.out GS.out)
          have y0 := BV2.out.c5
          rw [hV2] at y0
          go_wp2_with fail
          simp only [← hV2]
          clear rs rf rl y0 hV2
          refine (mhouse_any c x.buyer bb mb _ _ _ _ V2 BMV2.out HHV2.out HBI.out).mono ?_
          rintro e V3 ⟨rfl, hE⟩
          have RV3 := Lib.hid (RV2.out.ext hE); have GV3 := Lib.hid (grown_ext GV2.out hE)
          clear hE
          have rs := RV3.out.cell (i := bb) (x := Q) (by rw [List.getElem?_set, if_neg HNE.out, netTo_get hbl, HQQ.out])
          have rf := RV3.out.frozen
          have rl := RV3.out.lt
          go_wp2
          have hst := HST.out
          rw [show P - -q = P + q by omega, show Q + -q = Q - q by omega] at hst
          exact Handed.intro (n2 - (kk + 1)) (by omega) (HJ.out _ _ _ ⟨kk + 1, by omega, Nat.le_refl _, ⟨rfl, rfl, by simp [Act.eval]⟩, grown_set GV3.out (p := ⟨w3.heap.size, bb, none⟩) (.inl rfl) _, by rw [← hst]; exact RV3.out.set bb (Q - q)⟩)
        · have HE := Lib.hid (show kk = n2 by omega)
          go_wp2
          go_ret2
          refine ⟨⟨.slice (some ⟨w3.heap.size, 0, none⟩) n n, by rw [HP.out.2]; rfl, ?_⟩, ext_grown (E3.out.trans E4.out) HG.out (by omega)⟩
          have hr := RW.out
          rw [show kk = c.sales.length by have := HE.out; have := HN2.out; omega, netTo_all HM.out] at hr
          have := hr.sl (by rw [gets_len]; have := hn.out; unfold maxLen; omega)
          rw [gets_len, ← hn.out] at this
          rw [HP.out.1]
          exact this
end Go.Proofs.YtafdbgielmlihaaDoor
/- Adds: the walks. -/
namespace Go.Proofs.YtafdbgielmlihaaDoor
open Go.RowKit Go.Shelf Go.Lib
set_option maxRecDepth 100000
set_option linter.unusedSimpArgs false

theorem mild_sum {l : List Int} (h : Mild l) : -1000000000000 ≤ sumI l ∧ sumI l ≤ 1000000000000 := by
  have := h.take l.length
  rwa [List.take_length] at this
set_option maxHeartbeats 4000000 in
theorem adds_any (c : Chn) (x : Sale) (v : Int) (hv sv : Value) (w : World) (had : AddsOf c x v) (hT : Tab w) (hh : SlI w hv c.houses) (hs : SlL w sv c.sales) (hlh : c.houses.length ≤ 1000) (hl : c.sales.length ≤ 900) :
    Calls Tryd.prog 51 #[valC hv sv, valL x] w (NumE v (addsE c x) w) := by
  have HT := Lib.hid hT; have HH := Lib.hid hh; have HS := Lib.hid hs; have HL := Lib.hid hl; have HLH := Lib.hid hlh
  obtain ⟨A, n, cp, rfl, hn, hlc, hcm⟩ := hh.form
  obtain ⟨A2, n2, cp2, rfl, hn2, hlc2, hcm2⟩ := hs.form
  obtain ⟨w0, hw0⟩ : ∃ w0, w0 = (w.alloc (.cells #[.slice A n cp, .slice A2 n2 cp2] 25)).alloc (.cells #[.int .i64 x.number, .int .i64 x.seller, .int .i64 x.buyer, .int .i64 x.bales, .int .i64 x.price] 68) := ⟨_, rfl⟩
  have E0 := Lib.hid (show Ext w w0 from hw0 ▸ (Ext.al _ _).alloc _)
  have B0 := Lib.hid (show Blk w0 w.heap.size 25 #[.slice A n cp, .slice A2 n2 cp2] from hw0 ▸ (Blk.new _ _ _).alloc _)
  have C0 := Lib.hid (show Blk w0 (w.heap.size + 1) 68 #[.int .i64 x.number, .int .i64 x.seller, .int .i64 x.buyer, .int .i64 x.bales, .int .i64 x.price] from hw0 ▸ Blk.at_ (by simp))
  clear hh hs hT hl hlh
  dsimp only [valL]
  go_enter Tryd.func51, Tryd.ntmps51
  go_wp2_with fail
  simp only [← hw0]
  clear hw0
  refine (check_any c _ _ _ (HT.out.ext E0.out) (HH.out.ext E0.out) (HS.out.ext E0.out) (by have := HL.out; omega)).mono ?_
  rintro e w1 ⟨rfl, hE⟩
  have E1 := Lib.hid (E0.out.trans hE); have B1 := Lib.hid (B0.out.ext hE); have C1 := Lib.hid (C0.out.ext hE)
  clear hE
  cases hc : checkP c with
  | false =>
    have HE := Lib.hid (show addsE c x = 60 by unfold addsE; rw [hc]; rfl)
    have HZ := Lib.hid (had.2 (by rw [HE.out]; decide))
    clear hc had
    dsimp only [errB]
    go_wp2
    go_ret2
    exact ⟨by rw [HZ.out, HE.out]; rfl, E1.out⟩
  | true =>
    have HR := Lib.hid (check_right hc).1
    have HS10 := Lib.hid (check_right hc).2
    have HCK := Lib.hid hc
    clear hc
    dsimp only [errB]
    have x0 := B1.out.c2
    have y0 := C1.out.c5
    go_wp2_with fail
    clear x0 y0
    refine (with_any c x _ _ _ (HH.out.ext E1.out) (HS.out.ext E1.out) HLH.out HL.out (rising_pair HR.out.sr)).mono ?_
    rintro e w2 ⟨⟨vw, rfl, hv2, sv2, rfl, ho1, ho2⟩, hE⟩
    have E2 := Lib.hid (E1.out.trans hE); have B2 := Lib.hid (B1.out.ext hE)
    obtain ⟨Ad, nd, cd, rfl, -, -, -⟩ := (show SlI w2 hv2 (withC c x).houses from ho1.sl (fun _ => rfl)).form
    obtain ⟨Ai, ni, ci, rfl, -, -, -⟩ := (show SlL w2 sv2 (withC c x).sales from ho2.sl (fun _ => rfl)).form
    have HHM := Lib.hid (show SlI w2 (.slice Ad nd cd) (withC c x).houses from ho1.sl (fun _ => rfl))
    have HSM := Lib.hid (show SlL w2 (.slice Ai ni ci) (withC c x).sales from ho2.sl (fun _ => rfl))
    have HWL := Lib.hid (withC_len c x)
    clear hE ho1 ho2
    dsimp only [valC]
    obtain ⟨w3, hw3⟩ : ∃ w3, w3 = w2.alloc (.cells #[.slice Ad nd cd, .slice Ai ni ci] 25) := ⟨_, rfl⟩
    have E23 := Lib.hid (show Ext w2 w3 from hw3 ▸ Ext.al _ _)
    have D3 := Lib.hid (show Blk w3 w2.heap.size 25 #[.slice Ad nd cd, .slice Ai ni ci] from hw3 ▸ Blk.new _ _ _)
    go_wp2_with fail
    simp only [← hw3]
    clear hw3
    refine (right_any (withC c x) _ _ _ ((HT.out.ext E2.out).ext E23.out) (HHM.out.ext E23.out) (HSM.out.ext E23.out) (by have := HWL.out; have := HS10.out; omega)).mono ?_
    rintro e w4 ⟨rfl, hE⟩
    have E4 := Lib.hid (E2.out.trans (E23.out.trans hE)); have B4 := Lib.hid (B2.out.ext (E23.out.trans hE)); have D4 := Lib.hid (D3.out.ext hE); have E24 := Lib.hid (E23.out.trans hE)
    clear hE
    cases hr : rightP (withC c x) with
    | false =>
      have HE := Lib.hid (show addsE c x = 61 by unfold addsE; rw [HCK.out, hr]; rfl)
      have HZ := Lib.hid (had.2 (by rw [HE.out]; decide))
      clear hr had
      go_wp2
      go_ret2
      exact ⟨by rw [HZ.out, HE.out]; rfl, E4.out⟩
    | true =>
      have HE := Lib.hid (show addsE c x = 0 by unfold addsE; rw [HCK.out, hr]; rfl)
      obtain ⟨l, m, hl, hm, hvv⟩ := had.1 HE.out
      have HRM := Lib.hid (right_of hr)
      have HCL := Lib.hid hl; have HCM := Lib.hid hm; have HVV := Lib.hid hvv
      have hml := mild_sum (close_mild HR.out hl (by have := HS10.out; omega))
      have hmm := mild_sum (close_mild HRM.out hm (by have := HWL.out; have := HS10.out; omega))
      obtain ⟨sl, hsl⟩ : ∃ s, sumI l = s := ⟨_, rfl⟩
      obtain ⟨sm, hsm⟩ : ∃ s, sumI m = s := ⟨_, rfl⟩
      rw [hsl] at hml
      rw [hsm] at hmm
      have hw1 : IntKind.i64.wrap (sm - sl) = sm - sl := by rw [IntKind.wrap_i64]; omega
      have HSS := Lib.hid (show v = sm - sl by rw [hvv, hsl, hsm])
      clear hr had hl hm hvv
      have m0 := fun W (h : Ext w4 W) => (D4.out.ext h).c2
      have m1 := fun W (h : Ext w4 W) => (B4.out.ext h).c2
      go_wp2
      refine wp_region_tame (fun W => Ext w4 W) (fun W W' => Ext W W') (by kernel_rfl) 32 rfl (by decide +kernel) (Ext.refl _).drew ?_
      repeat (apply tame_q rfl; (intro ρ W hC hr hD; (obtain ⟨hrc, hrg, hrf, hrs⟩ := hr); (simp [go_sem] at hD); go_simp; first | exact ⟨⟨hC, Ext.refl _⟩, rfl⟩ | exact ⟨⟨hC, RS.refl _⟩, rfl⟩ | exact rfl); simp only [List.nil_append, List.cons_append])
      apply tame_v rfl (MkA m 0) (fun v W W' _ hE h => h.ext hE)
      · intro ρ W hC hr hD
        obtain ⟨hrc, hrg, hrf, hrs⟩ := hr
        simp [go_sem] at hD
        go_simp
        refine (closing_any (withC c x) m _ _ W HCM.out HRM.out (by have := HWL.out; have := HS10.out; omega) ((HHM.out.ext E24.out).ext hC) ((HSM.out.ext E24.out).ext hC)).mono ?_
        rintro e w' ⟨mb, gm, hv', sv', cv', rfl, hE, -, -, h3, h4, -, -⟩
        exact ⟨_, rfl, ⟨hC.trans hE, hE⟩, ⟨mb, gm, hv', sv', cv', rfl, by have h3' := h3; rw [← close_len (HCM.out)] at h3'; exact h3', h4⟩⟩
      simp only [List.nil_append, List.cons_append]
      apply tame_v rfl (MkA m 0) (fun v W W' _ hE h => h.ext hE)
      · intro ρ W hC hr hD
        obtain ⟨hrc, hrg, hrf, hrs⟩ := hr
        simp [go_sem] at hD
        obtain ⟨mb, gm, hv', sv', cv', d1, d2, d3⟩ := hD
        go_simp
        exact ⟨⟨hC, Ext.refl _⟩, ⟨mb, gm, hv', sv', cv', rfl, d2, d3⟩⟩
      simp only [List.nil_append, List.cons_append]
      apply tame_v rfl (MkA m 2) (fun v W W' _ hE h => h.ext hE)
      · intro ρ W hC hr hD
        obtain ⟨hrc, hrg, hrf, hrs⟩ := hr
        simp [go_sem] at hD
        obtain ⟨mb, gm, hv', sv', cv', d1, d2, d3⟩ := hD
        go_simp
        exact ⟨⟨hC, Ext.refl _⟩, ⟨mb, gm, hv', sv', cv', rfl, d2, d3⟩⟩
      simp only [List.nil_append, List.cons_append]
      apply tame_v rfl (fun v W => SlI W v m) (fun v W W' _ hE h => h.ext hE)
      · intro ρ W hC hr hD
        obtain ⟨hrc, hrg, hrf, hrs⟩ := hr
        simp [go_sem] at hD
        obtain ⟨mb, gm, hv', sv', cv', d1, d2, d3⟩ := hD
        have d4 := d2.c4
        have d5 := d3.sl (show (m).length ≤ maxLen by have := close_len HCM.out; have := HWL.out; have := HS10.out; unfold maxLen; omega)
        go_simp
        first | exact ⟨⟨hC, Ext.refl _⟩, d5⟩ | exact ⟨hC, Ext.refl _⟩
      simp only [List.nil_append, List.cons_append]
      apply tame_q rfl
      · intro ρ W hC hr hD
        obtain ⟨hrc, hrg, hrf, hrs⟩ := hr
        simp [go_sem] at hD
        go_simp
        refine (f75_any m _ W hD.1 (close_mild HRM.out HCM.out (by have := HWL.out; have := HS10.out; omega))).mono ?_
        rintro e w' ⟨rfl, hE⟩
        exact ⟨_, rfl, ⟨hC.trans hE, hE⟩, rfl⟩
      simp only [List.nil_append, List.cons_append]
      repeat (apply tame_q rfl; (intro ρ W hC hr hD; (obtain ⟨hrc, hrg, hrf, hrs⟩ := hr); (simp [go_sem] at hD); go_simp; first | exact ⟨⟨hC, Ext.refl _⟩, rfl⟩ | exact ⟨⟨hC, RS.refl _⟩, rfl⟩ | exact rfl); simp only [List.nil_append, List.cons_append])
      apply tame_v rfl (MkA l 0) (fun v W W' _ hE h => h.ext hE)
      · intro ρ W hC hr hD
        obtain ⟨hrc, hrg, hrf, hrs⟩ := hr
        simp [go_sem] at hD
        go_simp
        refine (closing_any c l _ _ W HCL.out HR.out (by have := HS10.out; omega) ((HH.out.ext E4.out).ext hC) ((HS.out.ext E4.out).ext hC)).mono ?_
        rintro e w' ⟨mb, gm, hv', sv', cv', rfl, hE, -, -, h3, h4, -, -⟩
        exact ⟨_, rfl, ⟨hC.trans hE, hE⟩, ⟨mb, gm, hv', sv', cv', rfl, by have h3' := h3; rw [← close_len (HCL.out)] at h3'; exact h3', h4⟩⟩
      simp only [List.nil_append, List.cons_append]
      apply tame_v rfl (MkA l 0) (fun v W W' _ hE h => h.ext hE)
      · intro ρ W hC hr hD
        obtain ⟨hrc, hrg, hrf, hrs⟩ := hr
        simp [go_sem] at hD
        obtain ⟨mb, gm, hv', sv', cv', d1, d2, d3⟩ := hD
        go_simp
        exact ⟨⟨hC, Ext.refl _⟩, ⟨mb, gm, hv', sv', cv', rfl, d2, d3⟩⟩
      simp only [List.nil_append, List.cons_append]
      apply tame_v rfl (MkA l 2) (fun v W W' _ hE h => h.ext hE)
      · intro ρ W hC hr hD
        obtain ⟨hrc, hrg, hrf, hrs⟩ := hr
        simp [go_sem] at hD
        obtain ⟨mb, gm, hv', sv', cv', d1, d2, d3⟩ := hD
        go_simp
        exact ⟨⟨hC, Ext.refl _⟩, ⟨mb, gm, hv', sv', cv', rfl, d2, d3⟩⟩
      simp only [List.nil_append, List.cons_append]
      apply tame_v rfl (fun v W => SlI W v l) (fun v W W' _ hE h => h.ext hE)
      · intro ρ W hC hr hD
        obtain ⟨hrc, hrg, hrf, hrs⟩ := hr
        simp [go_sem] at hD
        obtain ⟨mb, gm, hv', sv', cv', d1, d2, d3⟩ := hD
        have d4 := d2.c4
        have d5 := d3.sl (show (l).length ≤ maxLen by have := close_len HCL.out; have := HS10.out; unfold maxLen; omega)
        go_simp
        first | exact ⟨⟨hC, Ext.refl _⟩, d5⟩ | exact ⟨hC, Ext.refl _⟩
      simp only [List.nil_append, List.cons_append]
      apply tame_q rfl
      · intro ρ W hC hr hD
        obtain ⟨hrc, hrg, hrf, hrs⟩ := hr
        simp [go_sem] at hD
        go_simp
        refine (f75_any l _ W hD.1 (close_mild HR.out HCL.out (by have := HS10.out; omega))).mono ?_
        rintro e w' ⟨rfl, hE⟩
        exact ⟨_, rfl, ⟨hC.trans hE, hE⟩, rfl⟩
      simp only [List.nil_append, List.cons_append]
      repeat (apply tame_q rfl; (intro ρ W hC hr hD; (obtain ⟨hrc, hrg, hrf, hrs⟩ := hr); (simp [go_sem] at hD); go_simp; first | exact ⟨⟨hC, Ext.refl _⟩, rfl⟩ | exact ⟨⟨hC, RS.refl _⟩, rfl⟩ | exact rfl); simp only [List.nil_append, List.cons_append])
      refine tame_end_put rfl rfl (fun ρ V hC hr hF => ?_)
      simp [go_sem] at hF
      obtain ⟨f19, -, -, -, -, f24, f25, -, -, -, -, f30, f31, f4, f5⟩ := hF
      simp only [putF, f19, f24, f25, f30, f31, f4, f5, List.set_cons_succ, List.set_cons_zero]
      have HC := Lib.hid hC
      clear hC hr m0 m1 f19 f24 f25 f30 f31 f4 f5
      go_wp2
      go_ret2
      exact ⟨by rw [HSS.out, HE.out, ← hw1]; rfl, E4.out.trans HC.out⟩
end Go.Proofs.YtafdbgielmlihaaDoor
/- Way: the reference's. -/
namespace Go.Proofs.YtafdbgielmlihaaDoor
open Go.RowKit Go.Shelf Go.Lib
set_option maxRecDepth 100000
set_option linter.unusedSimpArgs false

/-- A list and an error. -/
def ListQ (l : List Int) (E : Int) (w : World) (e : Ending) (w' : World) : Prop := (∃ v, e = .returned (.tuple #[v, .int .i64 E]) ∧ SlI w' v l) ∧ Ext w w'
theorem way_chk {c : Chn} {a b : Int} {l : List Int} {E : Int} (h : WayOf c a b l E) (hc : checkP c = false) : l = [] ∧ E = 60 := by
  unfold WayOf at h
  rw [hc] at h
  exact h
theorem way_has {c : Chn} {a b : Int} {l : List Int} {E : Int} (h : WayOf c a b l E) (hc : checkP c = true) (hn : (hasI c.houses a && hasI c.houses b) = false) : l = [] ∧ E = 6 := by
  unfold WayOf at h
  rw [hc, hn] at h
  exact h
theorem way_in {c : Chn} {a b : Int} {l : List Int} {E : Int} (h : WayOf c a b l E) (hc : checkP c = true) (hn : (hasI c.houses a && hasI c.houses b) = true) : (∃ d, Away c b d a ∧ l = wayG c b d a ∧ E = 0) ∨ ((∀ k, toB c b k a = false) ∧ l = [] ∧ E = 6) := by
  unfold WayOf at h
  rw [hc, hn] at h
  exact h
end Go.Proofs.YtafdbgielmlihaaDoor
