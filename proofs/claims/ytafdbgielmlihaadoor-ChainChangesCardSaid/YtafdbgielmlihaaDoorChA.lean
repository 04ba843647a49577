/- The walks of the layer chain's first functions: rising, numbers, slices' Index, Contains, IndexFunc at sales; the checks of a chain. -/
import Derived.Test.YtafdbgielmlihaaDoorChLaw
import Derived.Test.YtafdbgielmlihaaDoorOwnMem
namespace Go.Proofs.YtafdbgielmlihaaDoor
open Go.RowKit Go.Shelf
set_option maxRecDepth 100000
set_option linter.unusedSimpArgs false

set_option maxHeartbeats 400000 in
theorem rising_any (l : List Int) (v : Value) (w : World) (hs : SlI w v l) :
    Calls Tryd.prog 148 #[v] w fun e w' => e = .returned (.bool (risingB 0 l)) ∧ Ext w w' := by
  obtain ⟨A, n, cp, rfl, hn, hlc, hcm⟩ := hs.form
  go_enter Tryd.func148, Tryd.ntmps148
  go_wp2
  go_loopg [3, 8] n (fun gg la s wr => ∃ (kk : Nat) (last : Int), kk ≤ n ∧ n - kk ≤ gg ∧ s = .int .i64 kk ∧ la = .int .i64 last ∧ 0 ≤ last ∧ last ≤ 9999 ∧ Aside (risingB 0 l = risingB last (l.drop kk)) ∧ Aside (Ext w wr))
  case atStart => exact ⟨0, 0, Nat.zero_le _, by omega, rfl, rfl, by omega, by omega, rfl, Ext.refl w⟩
  case round =>
    obtain ⟨kk, last, hkk, hg, rfl, rfl, h0, h9, RE, BW⟩ := hrel
    by_cases hlt : kk < n
    · have hltz : (kk : Int) < (n : Int) := by omega
      obtain ⟨b, off, x, rfl, hx, hb, hcell⟩ := hs.at_ hlt
      have c0 := SlI.cell hcell BW.out
      have HX := Lib.hid hx; clear hx hcell
      go_wp2_with fail
      refine (in1_any (last + 1) 9999 x _ _ (by simp) (by simp [go_sem])).mono ?_
      rintro e w' ⟨rfl, hb'⟩
      have hE := BW.out.trans ((Ext.al _ _).trans hb')
      have HE := Lib.hid hE; clear hE hb'
      cases hq : inB (last + 1) 9999 x
      · have HQ := Lib.hid hq; clear hq
        go_wp2
        go_ret
        exact ⟨ret_bool (by rw [RE.out, drop_at HX.out, risingB, HQ.out]; rfl), HE.out⟩
      · have hq' := hq
        unfold inB at hq'
        simp at hq'
        have h1 : 0 ≤ x := by omega
        have h2 : x ≤ 9999 := by omega
        have HQ := Lib.hid hq; clear hq hq'
        go_wp2
        go_roundg (n - (kk + 1))
        case measure => omega
        case rel => exact ⟨kk + 1, x, by omega, by omega, rfl, rfl, h1, h2, by show _ = _; rw [RE.out, drop_at HX.out, risingB, HQ.out]; rfl, HE.out⟩
    · have HE := Lib.hid (show kk = n by omega)
      go_wp2
      go_ret
      exact ⟨ret_bool (by rw [RE.out, List.drop_eq_nil_of_le (by have := HE.out; have := hn.out; omega)]; rfl), BW.out⟩

theorem info3x : (Tryd.prog.info? 3).map (fun i => (i.zero, i.size, i.bytes)) = some (some (.int .i64 0), 1, 8) := by kernel_rfl
theorem encI_one : ∀ x, ∀ u ∈ encI x, u.oneCell' = true := by intro x u hu; simp at hu; subst hu; rfl
theorem take_snoc {α : Type} {l : List α} {k : Nat} {x : α} (h : l[k]? = some x) : l.take (k + 1) = l.take k ++ [x] := by
  obtain ⟨hk, rfl⟩ := List.getElem?_eq_some_iff.1 h
  rw [List.take_succ_eq_append_getElem hk]
set_option maxHeartbeats 1000000 in
theorem numbers_any (l : List Sale) (v : Value) (w : World) (hs : SlL w v l) (hl : l.length ≤ 1000) :
    Calls Tryd.prog 86 #[v] w fun e w' => (∃ v', e = .returned v' ∧ Own encI 3 1 w' w.heap.size v' (l.map (·.number))) ∧ Ext w w' := by
  have HS := Lib.hid hs
  obtain ⟨A, n, cp, rfl, hn, hlc, hcm⟩ := hs.form
  have HNN := Lib.hid (show n ≤ 1000 by have := hn.out; omega)
  clear hs hl
  go_enter Tryd.func86, Tryd.ntmps86
  go_wp2
  go_loopg [3, 8] n (fun gg la s wr => ∃ (kk : Nat) (A1 : Option Addr) (n1 d1 : Nat), kk ≤ n ∧ n - kk ≤ gg ∧ s = .int .i64 kk ∧ la = .slice A1 n1 d1 ∧ Aside (Own encI 3 1 wr w.heap.size (.slice A1 n1 d1) ((l.take kk).map (·.number))) ∧ Aside (Ext w wr))
  case atStart => exact ⟨0, none, 0, 0, Nat.zero_le _, by omega, rfl, rfl, by show Own _ _ _ _ _ _ _; simpa using Own.nil _ _, Ext.refl w⟩
  case round =>
    obtain ⟨kk, A1, n1, d1, hkk, hg, rfl, rfl, OW, BW⟩ := hrel
    by_cases hlt : kk < n
    · have hltz : (kk : Int) < (n : Int) := by omega
      obtain ⟨b, off, x, rfl, hx, hb, hcell⟩ := HS.out.at_ hlt
      obtain ⟨c0, c1, c2, c3, c4⟩ := SlL.cells hcell BW.out
      have HX := Lib.hid hx; clear hx hcell
      have HLT := Lib.hid (show (l.take kk).length = kk ∧ kk ≤ 1000 by have := HNN.out; have := hn.out; rw [List.length_take]; omega)
      go_wp2_with (at_builtin; refine wpList_app encI 22 3 1 _ 8 Tryd.underlying22 info3x rfl (by decide) (by decide) (fun _ => rfl) encI_one rfl (.tmp 12) (.tmp 15) rfl w.heap.size _ ((l.take kk).map (·.number)) rfl ((OW.out.alloc _).alloc _) (wr.heap.size + 1) 1 x.number rfl (cells1 (by simp [go_sem])) (by have := HLT.out; simp; omega) (by have := BW.out.size; simp; omega) ?_)
      intro g cap w1 hown hg1 hbel hgr
      have HO := Lib.hid (show Own encI 3 1 w1 w.heap.size (.slice (some ⟨g, 0, none⟩) (kk + 1) cap) ((l.take (kk + 1)).map (·.number)) from by
        have h := hown
        rw [show min kk l.length = kk from by have := HLT.out.1; rwa [List.length_take] at this] at h
        rw [take_snoc HX.out, List.map_append]
        simpa [List.map_take] using h)
      have HB := Lib.hid (show Ext w w1 from Below.trans ((BW.out.alloc _).alloc _) hbel)
      clear hown hbel hgr
      go_wp2
      go_roundg (n - (kk + 1))
      case measure => omega
      case rel => exact ⟨kk + 1, _, _, _, by omega, by omega, by simp, rfl, by show Own _ _ _ _ _ _ _; rw [show min kk l.length = kk from by have := HLT.out.1; rwa [List.length_take] at this]; exact HO.out, HB.out⟩
    · have HE := Lib.hid (show kk = n by omega)
      go_wp2
      go_ret
      exact ⟨⟨_, rfl, by have := OW.out; rw [List.take_of_length_le (by have := HE.out; have := hn.out; omega)] at this; exact this⟩, BW.out⟩

set_option maxHeartbeats 400000 in
theorem f85_any (l : List Int) (x : Int) (v : Value) (w : World) (hs : SlI w v l) :
    Calls Tryd.prog 85 #[v, .int .i64 x] w fun e w' => e = .returned (.int .i64 (idxF (fun y => decide (x = y)) l)) ∧ Ext w w' := by
  obtain ⟨A, n, c, rfl, hn, hlc, hcm⟩ := hs.form
  go_enter Tryd.func85, Tryd.ntmps85
  go_wp2
  go_loopg [5, 8] n (fun gg _ s8 wr => ∃ kk : Nat, kk ≤ n ∧ n - kk ≤ gg ∧ s8 = .int .i64 kk ∧ Aside (Ext w wr) ∧ Aside (∀ j y, j < kk → l[j]? = some y → decide (x = y) = false))
  case atStart => exact ⟨0, Nat.zero_le _, by omega, rfl, Ext.refl w, fun j y hj => absurd hj (Nat.not_lt_zero _)⟩
  case round =>
    obtain ⟨kk, hkk, hg, rfl, BW, FA⟩ := hrel
    by_cases hlt : kk < n
    · have hltz : (kk : Int) < (n : Int) := by omega
      obtain ⟨b, off, y, rfl, hx, hb, hcell⟩ := hs.at_ hlt
      have c0 := SlI.cell hcell BW.out
      have HX := Lib.hid hx; clear hx hcell hs
      by_cases hq : x = y
      · have HQ := Lib.hid (show decide (x = y) = true by simp [hq])
        go_wp2
        go_ret
        exact ⟨by rw [idxF_some _ l kk y HX.out HQ.out FA.out]; rfl, BW.out⟩
      · have HQ := Lib.hid (show decide (x = y) = false by simp [hq])
        go_wp2
        go_roundg (n - (kk + 1))
        case measure => omega
        case rel => exact ⟨kk + 1, by omega, by omega, rfl, BW.out, fun j z hj hz => by
          rcases Nat.lt_succ_iff_lt_or_eq.1 hj with h | rfl
          · exact FA.out j z h hz
          · rw [HX.out] at hz; cases hz; exact HQ.out⟩
    · have HE := Lib.hid (show kk = n by omega); clear hs
      go_wp2
      go_ret
      exact ⟨by rw [idxF_none _ l (fun x hx => by obtain ⟨j, hj⟩ := List.getElem?_of_mem hx; exact FA.out j x (by have := (List.getElem?_eq_some_iff.1 hj).1; have := HE.out; have := hn.out; omega) hj)]; rfl, BW.out⟩
theorem has_any (l : List Int) (v : Value) (x : Int) (w : World) (hs : SlI w v l) :
    Calls Tryd.prog 92 #[v, .int .i64 x] w fun e w' => e = .returned (.bool (hasI l x)) ∧ Ext w w' := by
  have HS := Lib.hid hs
  obtain ⟨A, n, c, rfl, hn, hlc, hcm⟩ := hs.form
  have HI := Lib.hid (f85_any l x _ w HS.out)
  clear hs
  go_enter Tryd.func92, Tryd.ntmps92
  go_wp2_with fail
  refine HI.out.mono ?_
  rintro e w1 ⟨rfl, hE⟩
  have HE := Lib.hid hE; clear hE
  go_wp2
  go_ret
  exact ⟨ret_bool (idxF_any _ l), HE.out⟩

set_option maxHeartbeats 400000 in
theorem f127_any (g : FuncId) (cap : Array Value) (eg : ∀ args w, (callFunc g args).run Tryd.prog w = .ok (.enter g args) w) (p : Sale → Bool) (l : List Sale) (v : Value) (w : World) (hs : SlL w v l) (hp : Pred valL g cap p l w) :
    Calls Tryd.prog 127 #[v, .func (.func g) #[] cap] w fun e w' => e = .returned (.int .i64 (idxF p l)) ∧ Ext w w' := by
  obtain ⟨A, n, c, rfl, hn, hlc, hcm⟩ := hs.form
  have HP := Lib.hid hp; clear hp
  go_enter Tryd.func127, Tryd.ntmps127
  go_wp2
  go_loopg [5, 8] n (fun gg _ s8 wr => ∃ kk : Nat, kk ≤ n ∧ n - kk ≤ gg ∧ s8 = .int .i64 kk ∧ Aside (Ext w wr) ∧ Aside (∀ j y, j < kk → l[j]? = some y → p y = false))
  case atStart => exact ⟨0, Nat.zero_le _, by omega, rfl, Ext.refl w, fun j y hj => absurd hj (Nat.not_lt_zero _)⟩
  case round =>
    obtain ⟨kk, hkk, hg, rfl, BW, FA⟩ := hrel
    by_cases hlt : kk < n
    · have hltz : (kk : Int) < (n : Int) := by omega
      obtain ⟨b, off, x, rfl, hx, hb, hcell⟩ := hs.at_ hlt
      obtain ⟨c0, c1, c2, c3, c4⟩ := SlL.cells hcell BW.out
      have hcall := HP.out wr x (List.mem_of_getElem? hx) BW.out
      have HX := Lib.hid hx; clear hx hcell hs
      cases hq : p x with
      | true =>
        rw [hq] at hcall
        have HC := Lib.hid hcall; clear hcall
        have HQ := Lib.hid hq; clear hq
        go_wp2_with (go_at_fn g; refine HC.out.mono ?_; rintro e w' ⟨rfl, hb'⟩)
        go_ret
        exact ⟨by rw [idxF_some p l kk x HX.out HQ.out FA.out]; rfl, BW.out.trans hb'⟩
      | false =>
        rw [hq] at hcall
        have HC := Lib.hid hcall; clear hcall
        have HQ := Lib.hid hq; clear hq
        go_wp2_with (go_at_fn g; refine HC.out.mono ?_; rintro e w' ⟨rfl, hb'⟩)
        go_roundg (n - (kk + 1))
        case measure => omega
        case rel => exact ⟨kk + 1, by omega, by omega, rfl, BW.out.trans hb', fun j y hj hy => by
          rcases Nat.lt_succ_iff_lt_or_eq.1 hj with h | rfl
          · exact FA.out j y h hy
          · rw [HX.out] at hy; cases hy; exact HQ.out⟩
    · have HE := Lib.hid (show kk = n by omega); clear hs
      go_wp2
      go_ret
      exact ⟨by rw [idxF_none p l (fun x hx => by obtain ⟨j, hj⟩ := List.getElem?_of_mem hx; exact FA.out j x (by have := (List.getElem?_eq_some_iff.1 hj).1; have := HE.out; have := hn.out; omega) hj)]; rfl, BW.out⟩
theorem f150_any (g : FuncId) (cap : Array Value) (eg : ∀ args w, (callFunc g args).run Tryd.prog w = .ok (.enter g args) w) (p : Sale → Bool) (l : List Sale) (v : Value) (w : World) (hs : SlL w v l) (hp : Pred valL g cap p l w) :
    Calls Tryd.prog 150 #[v, .func (.func g) #[] cap] w fun e w' => e = .returned (.bool (l.any p)) ∧ Ext w w' := by
  have HP := Lib.hid hp; clear hp
  have HS := Lib.hid hs; clear hs
  go_enter Tryd.func150, Tryd.ntmps150
  go_wp2_with (go_at_call 127; refine (f127_any g cap eg p l v _ HS.out HP.out).mono ?_; rintro e w' ⟨rfl, hb'⟩)
  go_ret
  exact ⟨ret_bool (idxF_any p l), hb'⟩

/-! The checks. -/
set_option maxHeartbeats 1000000 in
theorem f151_any (H : List Int) (A : Option Addr) (n c bc : Nat) (x : Sale) (w : World) (hb : w.cell? ⟨bc, 0, none⟩ = some (.slice A n c)) (hs : SlI w (.slice A n c) H) :
    Calls Tryd.prog 151 #[valL x, .pointer (some ⟨bc, 0, none⟩)] w fun e w' => e = .returned (.bool (badS H x)) ∧ Ext w w' := by
  have HS := Lib.hid hs
  have hlt := (is_cells hb).1
  have HB := Lib.hid hb
  clear hs
  dsimp only [valL]
  have hK : Later (w.alloc (.cells #[.int .i64 x.number, .int .i64 x.seller, .int .i64 x.buyer, .int .i64 x.bales, .int .i64 x.price] 68)) fun W => W.cell? ⟨bc, 0, none⟩ = some (.slice A n c) ∧ (W.cell? ⟨w.heap.size, 0, none⟩ = some (.int .i64 x.number) ∧ W.cell? ⟨w.heap.size, 1, none⟩ = some (.int .i64 x.seller) ∧ W.cell? ⟨w.heap.size, 2, none⟩ = some (.int .i64 x.buyer) ∧ W.cell? ⟨w.heap.size, 3, none⟩ = some (.int .i64 x.bales) ∧ W.cell? ⟨w.heap.size, 4, none⟩ = some (.int .i64 x.price) ∧ (∀ i, W.frozen? ⟨w.heap.size, i, none⟩ = false) ∧ w.heap.size < W.heap.size) ∧ bc < W.heap.size ∧ SlI W (.slice A n c) H := fun W hW =>
    ⟨(Ext.cell1 ((Ext.al _ _).trans hW) hb), ((Blk.new _ _ _).ext hW).c5, by have := hW.size; simp at this; omega, HS.out.ext ((Ext.al _ _).trans hW)⟩
  have HK := Lib.hid hK; clear hK
  cases e0 : (x.seller == x.buyer) with
  | true =>
    have E0 := Lib.hid (show decide (x.seller = x.buyer) = true by simpa using e0)
    go_enter Tryd.func151, Tryd.ntmps151
    go_wp2
    go_ret
    exact ⟨ret_bool (by unfold badS; rw [E0.out]; simp), Ext.al _ _⟩
  | false =>
    have E0 := Lib.hid (show decide (x.seller = x.buyer) = false by simpa using e0)
    go_enter Tryd.func151, Tryd.ntmps151
    go_wp2_with fail
    refine (has_any H _ x.seller _ (HK.out _ (Ext.refl _)).2.2.2).mono ?_
    rintro e w1 ⟨rfl, hE⟩
    have HE := Lib.hid hE; clear hE hb
    obtain ⟨k0, k1, k2, -⟩ := HK.out _ HE.out
    cases hA : hasI H x.seller with
    | false =>
      have HA := Lib.hid hA; clear hA
      go_wp2
      go_ret
      exact ⟨ret_bool (by unfold badS; rw [HA.out]; simp), (Ext.al _ _).trans HE.out⟩
    | true =>
      have HA := Lib.hid hA; clear hA
      go_wp2_with fail
      refine (has_any H _ x.buyer _ (HK.out _ HE.out).2.2.2).mono ?_
      rintro e w2 ⟨rfl, hE⟩
      have HE2 := Lib.hid (HE.out.trans hE); clear hE HE k0 k1 k2
      obtain ⟨k0, k1, k2, -⟩ := HK.out _ HE2.out
      cases hB : hasI H x.buyer with
      | false =>
        have HB2 := Lib.hid hB; clear hB
        go_wp2
        go_ret
        exact ⟨ret_bool (by unfold badS; rw [HB2.out]; simp), (Ext.al _ _).trans HE2.out⟩
      | true =>
        have HB2 := Lib.hid hB; clear hB
        go_wp2_with fail
        refine (in1_any 1 9 x.bales _ _ (by simp) (by simp [go_sem])).mono ?_
        rintro e w3 ⟨rfl, hE⟩
        have HE3 := Lib.hid ((HE2.out.alloc _).trans hE); clear hE HE2 k0 k1 k2
        obtain ⟨k0, k1, k2, -⟩ := HK.out _ HE3.out
        cases hC : inB 1 9 x.bales with
        | false =>
          have HC := Lib.hid hC; clear hC
          go_wp2
          go_ret
          exact ⟨ret_bool (by unfold badS; rw [HC.out]; simp), (Ext.al _ _).trans HE3.out⟩
        | true =>
          have HC := Lib.hid hC; clear hC
          go_wp2_with fail
          refine (in1_any 0 1000000 x.price _ _ (by simp) (by simp [go_sem])).mono ?_
          rintro e w4 ⟨rfl, hE⟩
          have HE4 := Lib.hid ((HE3.out.alloc _).trans hE); clear hE HE3 k0 k1 k2
          go_wp2
          go_ret
          exact ⟨ret_bool (by unfold badS; rw [E0.out, HA.out, HB2.out, HC.out]; simp), (Ext.al _ _).trans HE4.out⟩
end Go.Proofs.YtafdbgielmlihaaDoor
