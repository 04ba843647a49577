/- slices.Clone at numbers and sales, slices.DeleteFunc at sales, cmp.Compare, slices.BinarySearchFunc at sales. -/
import Derived.Test.YtafdbgielmlihaaDoorChD
import Derived.Test.YtafdbgielmlihaaDoorRowCopy
import Derived.Outline
namespace Go.Proofs.YtafdbgielmlihaaDoor
open Go.RowKit Go.Shelf Go.Lib
set_option maxRecDepth 100000
set_option linter.unusedSimpArgs false

@[go_sem] theorem eql22nil (w : World) (a : Option Addr) (n c : Nat) : (binOp .eql 22 (.slice a n c) (.slice none 0 0)).run Tryd.prog w = .ok (.bool a.isNone) w := Lib.run_eql_slice_nil w 22 3 a n c 0 0 Tryd.underlying22
@[go_sem] theorem eql23nil (w : World) (a : Option Addr) (n c : Nat) : (binOp .eql 23 (.slice a n c) (.slice none 0 0)).run Tryd.prog w = .ok (.bool a.isNone) w := Lib.run_eql_slice_nil w 23 68 a n c 0 0 Tryd.underlying23
theorem cloneI_any (v : Value) (l : List Int) (w : World) (hs : SlI w v l) (hlen : l.length ≤ 1000) :
    Calls Tryd.prog 83 #[v] w fun e w' => (∃ v', e = .returned v' ∧ Own encI 3 1 w' w.heap.size v' l) ∧ Ext w w' := by
  have HS := Lib.hid hs
  have HL := Lib.hid hlen
  obtain ⟨A, n, c, rfl, hn, hlc, hcm⟩ := hs.form
  have HN := Lib.hid (show A.isNone = true → l = [] ∧ n = 0 from sl_nil_of hs)
  clear hs hlen hn hlc hcm
  cases hN : A.isNone with
  | true =>
    obtain ⟨rfl, rfl⟩ := HN.out hN
    clear HS HL HN
    go_enter Tryd.func83, Tryd.ntmps83
    go_wp2
    go_ret
    exact ⟨⟨_, rfl, Own.nil _ _⟩, Ext.refl _⟩
  | false =>
    clear HN
    go_enter Tryd.func83, Tryd.ntmps83
    go_wp2_with (at_builtin; refine wpList_copyE (enc := encI) (e := 3) (sz := 1) Tryd.underlying22 info3x rfl (by decide) (by decide) (fun _ => rfl) rfl (.tmp 5) (.tmp 6) rfl (base := w.heap.size) (g := w.heap.size) rfl rfl (Blk.new _ _ _) (Nat.le_refl _) (by simp) (HS.out.ext (Ext.al _ _)) HL.out ?_)
    intro v1 w1 hown hext
    have HE := Lib.hid (show Ext w w1 from (Ext.al _ _).trans hext)
    go_wp2
    go_ret
    exact ⟨⟨_, rfl, hown⟩, HE.out⟩
theorem cloneL_any (v : Value) (l : List Sale) (w : World) (hs : SlL w v l) (hlen : l.length ≤ 1000) :
    Calls Tryd.prog 120 #[v] w fun e w' => (∃ v', e = .returned v' ∧ Own encL 68 5 w' w.heap.size v' l) ∧ Ext w w' := by
  have HS := Lib.hid hs
  have HL := Lib.hid hlen
  obtain ⟨A, n, c, rfl, hn, hlc, hcm⟩ := hs.form
  have HN := Lib.hid (show A.isNone = true → l = [] ∧ n = 0 from sl_nil_of hs)
  clear hs hlen hn hlc hcm
  cases hN : A.isNone with
  | true =>
    obtain ⟨rfl, rfl⟩ := HN.out hN
    clear HS HL HN
    go_enter Tryd.func120, Tryd.ntmps120
    go_wp2
    go_ret
    exact ⟨⟨_, rfl, Own.nil _ _⟩, Ext.refl _⟩
  | false =>
    clear HN
    go_enter Tryd.func120, Tryd.ntmps120
    go_wp2_with (at_builtin; refine wpList_copyE (enc := encL) (e := 68) (sz := 5) Tryd.underlying23 info68x rfl (by decide) (by decide) (fun _ => rfl) rfl (.tmp 5) (.tmp 6) rfl (base := w.heap.size) (g := w.heap.size) rfl rfl (Blk.new _ _ _) (Nat.le_refl _) (by simp) (HS.out.ext (Ext.al _ _)) HL.out ?_)
    intro v1 w1 hown hext
    have HE := Lib.hid (show Ext w w1 from (Ext.al _ _).trans hext)
    go_wp2
    go_ret
    exact ⟨⟨_, rfl, hown⟩, HE.out⟩

theorem del_any (tf : FuncId) (tlb : Array Value) (et : ∀ args w, (callFunc tf args).run Tryd.prog w = .ok (.enter tf args) w) (p : Sale → Bool) (l : List Sale) (v : Value) (base : Nat) (w : World) (hb : base ≤ w.heap.size) (ho : Own encL 68 5 w base v l)
    (hp : ∀ W x, Below base w W → Calls Tryd.prog tf (#[valL x] ++ tlb) W fun e W' => e = .returned (.bool (p x)) ∧ Ext W W') :
    Calls Tryd.prog 121 #[v, .func (.func tf) #[] tlb] w fun e w' => ∃ v', e = .returned v' ∧ Own encL 68 5 w' base v' (l.filter fun x => !p x) ∧ w.grownBy w' v.ownBlock := by
  have HP := Lib.hid hp
  have HO := Lib.hid ho
  have hsl : SlL w v l := Own.sl (enc := encL) (fun _ => rfl) ho
  obtain ⟨A, n, c, rfl, hn, hlc, hcm⟩ := hsl.form
  have HSL := Lib.hid hsl
  have HPR := Lib.hid (show Pred valL tf tlb p l w from fun W x _ hE => hp W x (Below.mono hE hb))
  clear hp ho hsl
  go_enter Tryd.func121, Tryd.ntmps121
  go_wp2_with fail
  refine (f127_any tf tlb et p l _ w HSL.out HPR.out).mono ?_
  rintro e w1 ⟨rfl, hE⟩
  have HB1 := Lib.hid hE
  have HO1 := Lib.hid (HO.out.ext hE)
  have hz1 := hE.size
  rcases idxF_cases p l with ⟨hi, hall⟩ | ⟨k, x, hi, hx, hpx, hlt⟩
  · rw [hi]
    have HF := Lib.hid (show (l.filter fun x => !p x) = l from List.filter_eq_self.2 fun x hx => by rw [hall x hx]; rfl)
    clear hE hall
    go_wp2
    go_ret
    exact ⟨_, rfl, by rw [HF.out]; exact HO1.out, ext_row HB1.out _⟩
  · rw [hi]
    have hkn : k < n := by rw [hn.out]; exact (List.getElem?_eq_some_iff.1 hx).1
    have hnz : (n : Int) ≤ 9223372036854775807 := by omega
    have hk1 : ¬ ((k : Int) = -1) := by omega
    have HF0 := Lib.hid (show l.take k = (l.take (k + 1)).filter fun x => !p x by
      rw [List.take_add_one, hx, List.filter_append]
      have h1 : (l.take k).filter (fun x => !p x) = l.take k := List.filter_eq_self.2 fun y hy => by
        obtain ⟨j, hj⟩ := List.mem_iff_getElem?.1 hy
        rw [List.getElem?_take] at hj
        split at hj
        · rename_i hjk
          rw [hlt j y hjk hj]; rfl
        · cases hj
      rw [h1]
      simp [hpx])
    obtain ⟨g, cap, hv, hbg⟩ : ∃ g cap, (Value.slice A n c) = .slice (some ⟨g, 0, none⟩) n cap ∧ base ≤ g := by
      obtain ⟨m, rfl⟩ : ∃ m, n = m + 1 := ⟨n - 1, by omega⟩
      have h9 := HO.out
      unfold Own at h9
      rw [← hn.out] at h9
      obtain ⟨g, cap, e1, e2⟩ := own_succ h9
      exact ⟨g, cap, e1, e2⟩
    injection hv with hv1 _ hv3
    subst hv1 hv3
    clear hE hi hx hpx hlt
    go_wp2
    go_loopg [5, 6, 7] n (fun gg s5 s6 _ wr => ∃ (i j : Nat) (m : List Sale), i < j ∧ j ≤ n ∧ n - j ≤ gg ∧ s5 = .int .i64 (i : Int) ∧ s6 = .int .i64 (j : Int) ∧ m.length = n ∧ Aside (Own encL 68 5 wr base (.slice (some ⟨g, 0, none⟩) n c) m) ∧ Aside (m.take i = (l.take j).filter fun x => !p x) ∧ Aside (∀ t, j ≤ t → m[t]? = l[t]?) ∧ Aside (w.grownBy wr (some g)))
    case atStart => exact ⟨k, k + 1, l, by omega, by omega, by omega, rfl, by simp, hn.out.symm, HO1.out, HF0.out, fun t _ => rfl, ext_row HB1.out _⟩
    case round =>
      obtain ⟨i, j, m, hij, hj, hgg, rfl, rfl, hml, OM, MT, MD, BW⟩ := hrel
      have hbs := BW.out.size
      by_cases hjn : j < n
      · have hjz : (j : Int) < (n : Int) := by omega
        have hslm : SlL wr (.slice (some ⟨g, 0, none⟩) n c) m := Own.sl (enc := encL) (fun _ => rfl) OM.out
        obtain ⟨bb, off, x, e1, hx, hbb, hxc⟩ := hslm.at_ hjn
        injection e1 with e1
        injection e1 with e1 e2 _
        subst e1 e2
        obtain ⟨c0, c1, c2, c3, c4⟩ := SlL.cells hxc (Ext.refl _)
        simp only [Nat.zero_add] at c0 c1 c2 c3 c4
        have HC := Lib.hid (HP.out (wr.alloc (.cells #[.int .i64 x.number, .int .i64 x.seller, .int .i64 x.buyer, .int .i64 x.bales, .int .i64 x.price] 68)) x ((row_below BW.out hb hbg).alloc (by omega) _))
        have hlx : l[j]? = some x := by rw [← MD.out j (Nat.le_refl _)]; exact hx
        have hxx : m[j]? = some x := hx
        cases hpx : p x with
        | true =>
          rw [hpx] at HC
          have HMT := Lib.hid (show m.take i = (l.take (j + 1)).filter fun x => !p x by rw [MT.out, List.take_add_one, hlx, List.filter_append]; simp [hpx])
          clear hxc hslm hx
          go_wp2_with (go_at_fn tf; refine HC.out.mono ?_; rintro e w' ⟨rfl, hE'⟩)
          have EX := Lib.hid (show Ext wr w' from (Ext.al _ _).trans hE')
          go_wp2
          go_roundg (n - (j + 1))
          case measure => omega
          case rel => exact ⟨i, j + 1, m, by omega, by omega, by omega, rfl, by simp, hml, OM.out.ext EX.out, HMT.out, fun t ht => MD.out t (by omega), grown_ext BW.out EX.out⟩
        | false =>
          rw [hpx] at HC
          have HMT := Lib.hid (show (m.set i x).take (i + 1) = (l.take (j + 1)).filter fun x => !p x by
            rw [List.take_add_one, List.getElem?_set, if_pos rfl, if_pos (by omega), List.take_set_of_le (Nat.le_refl _), MT.out, List.take_add_one, hlx, List.filter_append]
            simp [hpx])
          have hin : i < n := by omega
          have hiz : (i : Int) < (n : Int) := by omega
          clear hxc hslm hx
          go_wp2_with fail
          refine HC.out.mono ?_
          rintro e w' ⟨rfl, hE'⟩
          have EX := Lib.hid (show Ext wr w' from (Ext.al _ _).trans hE')
          have HBX := Lib.hid ((Blk.new wr 68 #[.int .i64 x.number, .int .i64 x.seller, .int .i64 x.buyer, .int .i64 x.bales, .int .i64 x.price]).ext hE')
          have OM2 := OM.out.ext EX.out
          have hslm : SlL w' (.slice (some ⟨g, 0, none⟩) n c) m := Own.sl (enc := encL) (fun _ => rfl) OM2
          obtain ⟨bb, off, y, e1, hy, hbb2, hyc⟩ := hslm.at_ hin
          injection e1 with e1
          injection e1 with e1 e2 _
          subst e1 e2
          obtain ⟨d0, d1, d2, d3, d4⟩ := SlL.cells hyc (Ext.refl _)
          simp only [Nat.zero_add] at d0 d1 d2 d3 d4
          have df : ∀ k, w'.frozen? ⟨g, k, none⟩ = false := fun k => own_frozen OM2 k
          have bx := HBX.out.c5
          have HOM2 := Lib.hid OM2
          clear hslm hyc hy OM2 c0 c1 c2 c3 c4 hE'
          go_wp2
          go_roundg (n - (j + 1))
          case measure => omega
          case rel => exact ⟨i + 1, j + 1, m.set i x, by omega, by omega, by omega, by simp, by simp, by rw [List.length_set]; exact hml, own_put5 (enc := encL) (fun _ => rfl) (x := x) rfl HOM2.out hml.symm hin, HMT.out, fun t ht => by rw [List.getElem?_set, if_neg (by omega)]; exact MD.out t (by omega), grown_set (grown_set (grown_set (grown_set (grown_set (grown_ext BW.out EX.out) (p := ⟨g, _, none⟩) (.inl rfl) _) (p := ⟨g, _, none⟩) (.inl rfl) _) (p := ⟨g, _, none⟩) (.inl rfl) _) (p := ⟨g, _, none⟩) (.inl rfl) _) (p := ⟨g, _, none⟩) (.inl rfl) _⟩
      · have hje : j = n := by omega
        subst hje
        obtain ⟨w', hr, HOC, hgr⟩ := run_clear_own (enc := encL) (sz := 5) (fun _ => rfl) (t := 23) (e := 68) (ty := 0) (z := .agg #[.int .i64 0, .int .i64 0, .int .i64 0, .int .i64 0, .int .i64 0]) Tryd.underlying23 Tryd.zeroValue68 rfl (by decide) (by decide) (k := i) (c := c - i) OM.out hml.symm (by omega)
        have HOC := Lib.hid HOC
        have HF := Lib.hid (show m.take i = l.filter fun x => !p x by rw [MT.out, List.take_of_length_le (by have := hn.out; omega)])
        have HBE := Lib.hid (show w.grownBy w' (some g) from grown_tr BW.out hgr)
        have hin : i ≤ j := by omega
        have hiz : (i : Int) ≤ (j : Int) := by omega
        clear hgr
        go_wp2
        go_ret
        exact ⟨_, rfl, by rw [← HF.out]; exact HOC.out, HBE.out⟩

def cmpI (a b : Int) : Int := if a < b then -1 else if b < a then 1 else 0
theorem nan_any (x : Int) (w : World) : Calls Tryd.prog 116 #[.int .i64 x] w fun e w' => e = .returned (.bool false) ∧ Ext w w' := by
  go_enter Tryd.func116, Tryd.ntmps116
  go_wp2
  go_ret
  exact ⟨by simp, Ext.refl _⟩
theorem compare_any (a b : Int) (w : World) : Calls Tryd.prog 99 #[.int .i64 a, .int .i64 b] w fun e w' => e = .returned (.int .i64 (cmpI a b)) ∧ Ext w w' := by
  go_enter Tryd.func99, Tryd.ntmps99
  go_wp2_with fail
  refine (nan_any a w).mono ?_
  rintro e w1 ⟨rfl, hE1⟩
  have HE1 := Lib.hid hE1; clear hE1
  go_wp2_with fail
  refine (nan_any b w1).mono ?_
  rintro e w2 ⟨rfl, hE2⟩
  have HE2 := Lib.hid (HE1.out.trans hE2); clear hE2
  by_cases h1 : a < b
  · have HC := Lib.hid (show cmpI a b = -1 by unfold cmpI; rw [if_pos h1])
    go_wp2
    go_ret
    exact ⟨by rw [HC.out]; rfl, HE2.out⟩
  · by_cases h2 : b < a
    · have HC := Lib.hid (show cmpI a b = 1 by unfold cmpI; rw [if_neg h1, if_pos h2])
      go_wp2
      go_ret
      exact ⟨by rw [HC.out]; rfl, HE2.out⟩
    · have HC := Lib.hid (show cmpI a b = 0 by unfold cmpI; rw [if_neg h1, if_neg h2])
      go_wp2
      go_ret
      exact ⟨by rw [HC.out]; rfl, HE2.out⟩

theorem f118_any (x : Sale) (n : Int) (w : World) : Calls Tryd.prog 118 #[valL x, .int .i64 n] w fun e w' => e = .returned (.int .i64 (cmpI x.number n)) ∧ Ext w w' := by
  dsimp only [valL]
  go_enter Tryd.func118, Tryd.ntmps118
  go_wp2_with fail
  refine (compare_any x.number n _).mono ?_
  rintro e w1 ⟨rfl, hE⟩
  have HE := Lib.hid ((Ext.al _ _).trans hE); clear hE
  go_wp2
  go_ret
  exact ⟨rfl, HE.out⟩

def Bin (p : Nat) (w : World) (e : Ending) (w' : World) : Prop := (∃ b : Bool, e = .returned (.tuple #[.int .i64 (p : Int), .bool b])) ∧ Ext w w'
set_option maxHeartbeats 1000000 in
theorem bin_any (tf : FuncId) (et : ∀ args w, (callFunc tf args).run Tryd.prog w = .ok (.enter tf args) w) (f : Sale → Int) (t : Int) (l : List Sale) (v : Value) (p : Nat) (w : World) (hs : SlL w v l) (hl : l.length ≤ 1000) (hp : p ≤ l.length)
    (hlo : ∀ k x, k < p → l[k]? = some x → f x < 0) (hhi : ∀ k x, p ≤ k → l[k]? = some x → 0 ≤ f x)
    (hf : ∀ W x, Ext w W → Calls Tryd.prog tf #[valL x, .int .i64 t] W fun e W' => e = .returned (.int .i64 (f x)) ∧ Ext W W') :
    Calls Tryd.prog 117 #[v, .int .i64 t, .func (.func tf) #[] #[]] w (Bin p w) := by
  have HF := Lib.hid hf
  have HLO := Lib.hid hlo
  have HHI := Lib.hid hhi
  have HS := Lib.hid hs
  obtain ⟨A, n, c, rfl, hn, hlc, hcm⟩ := hs.form
  have hn1 : n ≤ 1000 := by have := hn.out; omega
  have hpn : p ≤ n := by have := hn.out; omega
  clear hs hf hlo hhi hl hp
  go_enter Tryd.func117, Tryd.ntmps117
  go_wp2
  go_loopg [9, 10, 11] n (fun gg s9 s10 s11 wr => ∃ (i j : Nat), i ≤ p ∧ p ≤ j ∧ j ≤ n ∧ j - i ≤ gg ∧ s9 = .int .i64 (i : Int) ∧ s10 = .int .i64 (j : Int) ∧ Aside (Ext w wr))
  case atStart => exact ⟨0, n, by omega, by omega, by omega, by omega, rfl, rfl, Ext.refl _⟩
  case round =>
    obtain ⟨i, j, hip, hpj, hjn, hg, rfl, rfl, BW⟩ := hrel
    by_cases hij : i < j
    · have hijz : (i : Int) < (j : Int) := by omega
      obtain ⟨h, hh⟩ : ∃ h, h = (i + j) / 2 := ⟨_, rfl⟩
      have hhz : ((i : Int) + (j : Int)) / 2 = (h : Int) := by omega
      have hhn : h < n := by omega
      have hhnz : (h : Int) < (n : Int) := by omega
      have HIH := Lib.hid (show i ≤ h ∧ h < j by omega)
      obtain ⟨b, off, x, rfl, hx, hb, hcell⟩ := HS.out.at_ hhn
      obtain ⟨c0, c1, c2, c3, c4⟩ := SlL.cells hcell BW.out
      have HX := Lib.hid hx
      have HC := Lib.hid (HF.out wr x BW.out)
      clear hh hx hcell hb
      go_wp2_with fail
      refine HC.out.mono ?_
      rintro e w1 ⟨rfl, hE⟩
      have HE := Lib.hid (BW.out.trans hE); clear hE
      by_cases hlt : f x < 0
      · have hph : h < p := by
          refine Nat.lt_of_not_le fun hle => ?_
          have := HHI.out h x hle HX.out
          omega
        go_wp2
        go_roundg (j - (h + 1))
        case measure => have := HIH.out; omega
        case rel => exact ⟨h + 1, j, by omega, by omega, by omega, by omega, by simp, rfl, HE.out⟩
      · have hph : p ≤ h := by
          refine Nat.le_of_not_lt fun hle => ?_
          have := HLO.out h x hle HX.out
          omega
        go_wp2
        go_roundg (h - i)
        case measure => have := HIH.out; omega
        case rel => exact ⟨i, h, by omega, by omega, by omega, by omega, rfl, rfl, HE.out⟩
    · have he1 : i = p := by omega
      have he2 : j = p := by omega
      subst he1
      subst he2
      by_cases hpn' : j < n
      · have hpz : (j : Int) < (n : Int) := by omega
        obtain ⟨b, off, x, rfl, hx, hb, hcell⟩ := HS.out.at_ hpn'
        obtain ⟨c0, c1, c2, c3, c4⟩ := SlL.cells hcell BW.out
        have HC := Lib.hid (HF.out wr x BW.out)
        clear hx hcell hb
        go_wp2_with fail
        refine HC.out.mono ?_
        rintro e w1 ⟨rfl, hE⟩
        have HE := Lib.hid (BW.out.trans hE); clear hE
        go_wp2
        go_ret2
        exact ⟨⟨_, rfl⟩, HE.out⟩
      · have hpz : ¬ (j : Int) < (n : Int) := by omega
        go_wp2
        go_ret2
        exact ⟨⟨_, rfl⟩, BW.out⟩
end Go.Proofs.YtafdbgielmlihaaDoor
