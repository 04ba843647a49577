/- slices.Sort at a few ints: the steps that lead to the insertion sort. -/
import Derived.Test.YtkpengeaolcjhaaGreatDoorPkMlBestCardU
import Derived.Test.YtkpengeaolcjhaaGreatDoorPkMlBestCardQ
import Derived.Test.YtkpengeaolcjhaaGreatDoorPkMlBestCardT
import Derived.Test.YtkpengeaolcjhaaGreatDoorPkMlBestCardS
import Derived.Test.YtkpengeaolcjhaaGreatDoorPkMlBestCardC
import Derived.Test.YtkpengeaolcjhaaGreatDoorPkMlBestCardN
namespace Go.Proofs.YtkpengeaolcjhaaGreatDoor
open Go.RowKit Go.Shelf Go.Lib
set_option maxRecDepth 100000
set_option linter.unusedSimpArgs false

set_option maxHeartbeats 4000000 in
theorem len64_any (n : Nat) (hn : n ≤ 12) (w : World) : Calls Tryz.prog 128 #[.int .u64 (n : Int)] w fun e w' => (∃ k, e = .returned (.int .i64 k)) ∧ w = w' := by
  rcases (by omega : n = 0 ∨ n = 1 ∨ n = 2 ∨ n = 3 ∨ n = 4 ∨ n = 5 ∨ n = 6 ∨ n = 7 ∨ n = 8 ∨ n = 9 ∨ n = 10 ∨ n = 11 ∨ n = 12) with rfl | rfl | rfl | rfl | rfl | rfl | rfl | rfl | rfl | rfl | rfl | rfl | rfl
  all_goals
    go_enter Tryz.func128, Tryz.ntmps128
    go_wp2
    go_ret
    exact ⟨⟨_, rfl⟩, rfl⟩
theorem bitsLen_any (n : Nat) (hn : n ≤ 12) (w : World) : Calls Tryz.prog 91 #[.int .u64 (n : Int)] w fun e w' => (∃ k, e = .returned (.int .i64 k)) ∧ w = w' := by
  go_enter Tryz.func91, Tryz.ntmps91
  go_wp2_with fail
  refine (len64_any n hn _).mono ?_
  rintro e w1 ⟨⟨k, rfl⟩, rfl⟩
  go_wp2
  go_ret
  exact ⟨⟨_, rfl⟩, rfl⟩
set_option maxHeartbeats 4000000 in
theorem insSort_none (v : Value) (w : World) : Calls Tryz.prog 118 #[v, .int .i64 0, .int .i64 0] w fun e w' => (∃ v, e = .returned v) ∧ w = w' := by
  go_enter Tryz.func118, Tryz.ntmps118
  go_wp2
  go_loopg [6, 7] 1 (fun gg s6 _ wr => gg = 1 ∧ s6 = .int .i64 1 ∧ wr = w)
  case atStart => exact ⟨rfl, rfl, rfl⟩
  case round =>
    obtain ⟨rfl, rfl, rfl⟩ := hrel
    go_wp2
    refine bodyPost_end (results_none rfl _ _ _) rfl ?_
    exact ⟨⟨_, rfl⟩, rfl⟩
/-- What a sort of n numbers does. -/
def SortP (v : Value) (l : List Int) (base : Nat) (w : World) (e : Ending) (w' : World) : Prop := (∃ r, e = .returned r) ∧ Own encI 3 1 w' base v (ordI l l.length) ∧ Below base w w'
theorem insSort_all (l : List Int) (v : Value) (base : Nat) (w : World) (hl : l.length ≤ 12) (ho : Own encI 3 1 w base v l) (hb : base ≤ w.heap.size) :
    Calls Tryz.prog 118 #[v, .int .i64 0, .int .i64 (l.length : Int)] w (SortP v l base w) := by
  rcases own_form ho with ⟨rfl, rfl⟩ | ⟨g, cap, cur, rfl, hg, hh, h1, h2, h3, h4⟩
  · exact (insSort_none _ w).mono fun e w' ⟨he, hw⟩ => ⟨he, hw ▸ ho, hw ▸ Below.refl _ _⟩
  · by_cases h0 : l.length = 0
    · obtain rfl := List.length_eq_zero_iff.1 h0
      exact (insSort_none _ w).mono fun e w' ⟨he, hw⟩ => ⟨he, hw ▸ ho, hw ▸ Below.refl _ _⟩
    · exact (insSort_any l g l.length cap base w rfl (by omega) hl ho).mono fun e w' ⟨he, hO, hG⟩ => ⟨he, hO, (Below.refl base w).grown hG hb (fun k hk => by injection hk with hk; subst hk; exact hg)⟩
set_option maxHeartbeats 4000000 in
theorem pdq_any (l : List Int) (v : Value) (k : Int) (base : Nat) (w : World) (hl : l.length ≤ 12) (ho : Own encI 3 1 w base v l) (hb : base ≤ w.heap.size) :
    Calls Tryz.prog 90 #[v, .int .i64 0, .int .i64 (l.length : Int), .int .i64 k] w (SortP v l base w) := by
  have HI := Lib.hid (insSort_all l v base w hl ho hb)
  obtain ⟨n, hn⟩ : ∃ n, l.length = n := ⟨_, rfl⟩
  have hw : IntKind.i64.wrap ((n : Int) - 0) = (n : Int) := by rw [Int.sub_zero]; exact wrap_nat (by omega)
  have hw2 : IntKind.i64.wrap (n : Int) = (n : Int) := wrap_nat (by omega)
  have h12 : (n : Int) ≤ 12 := by omega
  have h12n : n ≤ 12 := by omega
  rw [hn] at HI ⊢
  clear ho hb hl hn
  go_enter Tryz.func90, Tryz.ntmps90
  go_wp2
  go_loopg [1, 2, 3, 8, 9] 1 (fun gg s1 s2 s3 _ _ wr => gg = 1 ∧ s1 = .int .i64 0 ∧ s2 = .int .i64 (n : Int) ∧ s3 = .int .i64 k ∧ wr = w)
  case atStart => exact ⟨rfl, rfl, rfl, rfl, rfl⟩
  case round =>
    obtain ⟨rfl, rfl, rfl, rfl, rfl⟩ := hrel
    go_wp2_with fail
    refine HI.out.mono ?_
    rintro e w2 ⟨⟨r, rfl⟩, hO, hB⟩
    have HO := Lib.hid hO; have HB := Lib.hid hB
    clear hO hB HI
    go_wp2
    refine bodyPost_end (results_none rfl _ _ _) rfl ?_
    exact ⟨⟨_, rfl⟩, HO.out, HB.out⟩
set_option maxHeartbeats 4000000 in
theorem sortI_any (l : List Int) (v : Value) (base : Nat) (w : World) (hl : l.length ≤ 12) (ho : Own encI 3 1 w base v l) (hb : base ≤ w.heap.size) : Calls Tryz.prog 52 #[v] w (SortP v l base w) := by
  obtain ⟨A, n, c, rfl, hn, hlc, hcm⟩ := (show SlI w v l from ho.sl (fun _ => rfl)).form
  have hnl : n = l.length := hn.out
  have HP := Lib.hid fun k => pdq_any l (.slice A n c) k base w hl ho hb
  rw [show l.length = n from hnl.symm] at HP
  have hn12 : n ≤ 12 := by omega
  clear ho hb hl hn hnl
  go_enter Tryz.func52, Tryz.ntmps52
  go_wp2_with fail
  refine (bitsLen_any n hn12 _).mono ?_
  rintro e w1 ⟨⟨k, rfl⟩, rfl⟩
  go_wp2_with fail
  refine (HP.out k).mono ?_
  rintro e w2 ⟨⟨r, rfl⟩, hO, hB⟩
  have HO := Lib.hid hO; have HB := Lib.hid hB
  clear hO hB HP
  go_wp2
  refine bodyPost_end (results_none rfl _ _ _) rfl ?_
  exact ⟨⟨_, rfl⟩, HO.out, HB.out⟩
end Go.Proofs.YtkpengeaolcjhaaGreatDoor
/- mill.Most: how many lots there can be. -/
namespace Go.Proofs.YtkpengeaolcjhaaGreatDoor
open Go.RowKit Go.Shelf Go.Lib
set_option maxRecDepth 100000
set_option linter.unusedSimpArgs false

def fitLen (l : List Cot) : List Int := (l.filter fitB).map (·.len)
theorem fitLen_snoc (x : Cot) (l : List Cot) : fitLen (l ++ [x]) = fitLen l ++ (if fitB x then [x.len] else []) := by
  unfold fitLen
  rw [List.filter_append, List.map_append]
  congr 1
  by_cases h : fitB x = true
  · rw [if_pos h]; simp [h]
  · rw [if_neg h]; simp [h]
theorem fitLen_le (l : List Cot) : (fitLen l).length ≤ l.length := by unfold fitLen; rw [List.length_map]; exact List.length_filter_le _ _
theorem gr_le_len (L : Int) (s : Nat) (hs : 1 ≤ s) : ∀ (n : Nat) (l : List Int), l.length ≤ n → gr L s l ≤ l.length
  | _, [], _ => by rw [gr_nil]; omega
  | 0, x :: l, h => by simp at h
  | n + 1, x :: l, h => by
    have hl : l.length ≤ n := by simpa using h
    rw [gr_cons, List.length_cons]
    split
    · have := gr_le_len L s hs n (l.drop (s - 1)) (by rw [List.length_drop]; omega)
      rw [List.length_drop] at this
      omega
    · have := gr_le_len L s hs n l hl
      omega
theorem most_no {m : Mll} {L : Int} (h : checkM m = false) : mostE m L = 90 ∧ mostV m L = 0 := by
  have e : mostE m L = 90 := by unfold mostE; rw [h]; rfl
  exact ⟨e, by unfold mostV; rw [e]; rfl⟩
theorem most_arg {m : Mll} {L : Int} (h : checkM m = true) (h2 : L < 0) : mostE m L = 2 ∧ mostV m L = 0 := by
  have e : mostE m L = 2 := by unfold mostE; rw [h, if_pos rfl, if_pos h2]
  exact ⟨e, by unfold mostV; rw [e]; rfl⟩
theorem most_ok {m : Mll} {L : Int} (h : checkM m = true) (h2 : ¬ L < 0) : mostE m L = 0 ∧ mostV m L = mostN m L := by
  have e : mostE m L = 0 := by unfold mostE; rw [h, if_pos rfl, if_neg h2]
  exact ⟨e, by unfold mostV; rw [e]; rfl⟩
theorem SlI.none {W : World} {A : Option Addr} {c : Nat} (h : c ≤ maxLen) : SlI W (.slice A 0 c) [] := ⟨A, c, rfl, by simp, h, fun h => by simp at h⟩
set_option maxHeartbeats 8000000 in
theorem mostM_any (lots size L : Int) (l : List Rc) (sv : Value) (w : World) (hT : TabM w) (hs : MlC w sv l) (hlen : l.length ≤ 1000) :
    Calls Tryz.prog 14 #[valM lots size sv, .int .i64 L] w fun e w' => e = .returned (.tuple #[.int .i64 (mostV (mOf lots size l) L), .int .i64 (mostE (mOf lots size l) L)]) ∧ Ext w w' := by
  have HS := Lib.hid hs; have HT := Lib.hid hT; have HLN := Lib.hid hlen
  obtain ⟨A, n, c, rfl, hn, hlc, hcm⟩ := hs.1.form
  have HL := Lib.hid (show l.length = n from hn.out.symm)
  have hnb : n ≤ 1000 := by have := hn.out; omega
  clear hs hT hn hlen
  obtain ⟨V, hV⟩ : ∃ V, mostV (mOf lots size l) L = V := ⟨_, rfl⟩
  obtain ⟨E0, hE0⟩ : ∃ E0, mostE (mOf lots size l) L = E0 := ⟨_, rfl⟩
  rw [hV, hE0]
  have HV := Lib.hid hV; have HE0 := Lib.hid hE0
  clear hV hE0
  go_enter Tryz.func14, Tryz.ntmps14
  go_wp2_with fail
  refine (checkM_any lots size l _ _ (HT.out.ext (Ext.al _ _)) (HS.out.ext (Ext.al _ _)) HLN.out).mono ?_
  rintro e w1 ⟨rfl, hE⟩
  have HE1 := Lib.hid ((Ext.al w (.cells #[.int .i64 lots, .int .i64 size, .slice A n c] 24)).trans hE)
  have HB1 := Lib.hid ((Blk.new w 24 #[.int .i64 lots, .int .i64 size, .slice A n c]).ext hE)
  obtain ⟨b0, b1, b2, bf, bl⟩ := HB1.out.c3
  clear hE
  cases hc : checkM (mOf lots size l)
  · have HC := Lib.hid (most_no (L := L) hc)
    simp only [errB]
    clear hc
    go_wp2
    go_ret2
    exact ⟨by rw [← HV.out, ← HE0.out, HC.out.1, HC.out.2]; rfl, HE1.out⟩
  have HC := Lib.hid hc
  simp only [errB]
  clear hc
  by_cases hL : L < 0
  · have HM := Lib.hid (most_arg HC.out hL)
    go_wp2
    go_ret2
    exact ⟨by rw [← HV.out, ← HE0.out, HM.out.1, HM.out.2]; rfl, HE1.out⟩
  have HM := Lib.hid (most_ok HC.out hL)
  have HMO := Lib.hid (mok_of HC.out)
  obtain ⟨sz, hsz⟩ : ∃ sz : Nat, size = (sz : Int) := ⟨size.toNat, by have h : 2 ≤ size := HMO.out.s2; omega⟩
  subst hsz
  have hs2 : 2 ≤ sz := by have h : 2 ≤ (sz : Int) := HMO.out.s2; omega
  have hs4 : sz ≤ 4 := by have h : (sz : Int) ≤ 4 := HMO.out.s4; omega
  have HN7 := Lib.hid (show n ≤ 7 by have h := HMO.out.n7; simp at h; have := HL.out; omega)
  obtain ⟨G, hG⟩ : ∃ G, mostN (mOf lots sz l) L = (G : Nat) ∧ gr L sz (sortedL (mOf lots sz l)) = G := ⟨_, rfl, rfl⟩
  have HGN := Lib.hid hG.1
  have HG := Lib.hid hG.2
  clear hG
  go_wp2_with fail
  refine (laid_any lots sz l _ _ (HT.out.1.ext HE1.out) (HS.out.ext HE1.out) HLN.out).mono ?_
  rintro e w2 ⟨⟨m, nn, rfl, -, -, hmp⟩, hE⟩
  have HE2 := Lib.hid (HE1.out.trans hE); have HMP := Lib.hid hmp
  have HB2 := Lib.hid (HB1.out.ext hE)
  clear hE hmp b0 b1 b2 bf bl
  obtain ⟨b0, b1, b2, bf, bl⟩ := HB2.out.c3
  go_upto_region 9 with (fail)
  obtain ⟨w3, hw3⟩ : ∃ w3, w3 = w2.alloc (.cells #[.int .i64 lots, .int .i64 (sz : Int), .slice A n c, .map (some m)] 95) := ⟨_, rfl⟩
  rw [← hw3]
  have HE3 := Lib.hid (show Ext w w3 from hw3 ▸ HE2.out.alloc _)
  have HB3 := Lib.hid (show Blk w3 w.heap.size 24 #[.int .i64 lots, .int .i64 (sz : Int), .slice A n c] from hw3 ▸ HB2.out.alloc _)
  have HT3 := Lib.hid (show Blk w3 w2.heap.size 95 #[.int .i64 lots, .int .i64 (sz : Int), .slice A n c, .map (some m)] from hw3 ▸ Blk.new _ _ _)
  have HMP3 := Lib.hid (show MapB w3 m nn (fitTo l l.length) from hw3 ▸ HMP.out.ext (Ext.al _ _))
  clear hw3 b0 b1 b2 bf bl
  go_loopg [8, 24] n (fun gg s8 s24 wr => ∃ kk : Nat, kk ≤ n ∧ n - kk ≤ gg ∧ s24 = .int .i64 (kk : Int) ∧ Aside (Own encI 3 1 wr w3.heap.size s8 (fitLen ((l.take kk).map (·.c)))) ∧ Aside (Ext w3 wr))
  case atStart => exact ⟨0, by omega, by omega, by simp, Own.nil _ _, Ext.refl _⟩
  case round =>
    obtain ⟨kk, hkk, hgg, rfl, OW, HW⟩ := hrel
    by_cases hlt : kk < n
    · have hltz : (kk : Int) < (n : Int) := by omega
      have hin : In64 (kk : Int) := by unfold In64; omega
      obtain ⟨bi, offi, x, rfl, hx, hb, hcell⟩ := HS.out.1.at_ hlt
      obtain ⟨c0, c1, c2, c3, c4, c5, c6, c7⟩ := SlC.cells hcell (HE3.out.trans HW.out)
      have lk := (HMP3.out.ext (HW.out.trans (Ext.al wr (.cells #[.int .i64 x.c.b.id, .int .i64 x.c.b.layers, .int .i64 x.c.b.dry.lo, .int .i64 x.c.b.dry.hi, .slice x.da x.dn x.dc, .slice x.wa x.wn x.wc, .int .i64 x.c.len, .int .i64 x.c.str] 63)))).look hin
      rw [fitTo_at hx] at lk
      obtain ⟨t0, t1, t2, t3, tf, tl⟩ := (HT3.out.ext HW.out).c4
      have HTK := Lib.hid (show fitLen ((l.take (kk + 1)).map (·.c)) = fitLen ((l.take kk).map (·.c)) ++ (if fitB x.c then [x.c.len] else []) by rw [List.take_add_one, hx, List.map_append]; exact fitLen_snoc _ _)
      have HLB := Lib.hid (show (fitLen ((l.take kk).map (·.c))).length < 100000000000 by
        have h1 := fitLen_le ((l.take kk).map (·.c))
        rw [List.length_map, List.length_take] at h1; omega)
      generalize fitLen ((l.take kk).map (·.c)) = L0 at *
      clear hcell hx
      cases hfx : fitB x.c
      · have HX := Lib.hid hfx
        rw [hfx] at lk
        have HT2 := Lib.hid (show fitLen ((l.take (kk + 1)).map (·.c)) = L0 by rw [HTK.out, HX.out]; simp)
        clear hfx
        go_wp2
        go_roundg (n - (kk + 1))
        case measure => omega
        case rel => exact ⟨kk + 1, by omega, by omega, by simp, by rw [HT2.out]; exact OW.out.ext (Ext.al _ _), HW.out.alloc _⟩
      · have HX := Lib.hid hfx
        rw [hfx] at lk
        have HT2 := Lib.hid (show fitLen ((l.take (kk + 1)).map (·.c)) = L0 ++ [x.c.len] by rw [HTK.out, HX.out]; simp)
        clear hfx
        go_wp2_with (at_builtin; refine wpList_app encI 36 3 1 _ 8 Tryz.underlying36 info3x rfl (by decide) (by decide) (fun _ => rfl) encI_one rfl (.tmp 33) (.tmp 36) rfl w3.heap.size _ L0 rfl ((OW.out.ext (Ext.al _ _)).alloc _) (wr.heap.size + 1) 1 x.c.len rfl (cells1 (by simp [go_sem])) HLB.out (by have := HW.out.size; simp; omega) ?_)
        intro g cap w' hown hg2 hbel _
        rw [← HT2.out] at hown
        have HO := Lib.hid hown
        have HB := Lib.hid (show Ext w3 w' from Below.trans ((HW.out.alloc _).alloc _) hbel)
        clear hown hbel
        go_wp2
        go_roundg (n - (kk + 1))
        case measure => omega
        case rel => exact ⟨kk + 1, by omega, by omega, by simp, HO.out, HB.out⟩
    · have HEN := Lib.hid (show kk = n by omega)
      have HFL := Lib.hid (show (l.take kk).map (·.c) = (mOf lots sz l).cots by rw [List.take_of_length_le (by have := HEN.out; have := HL.out; omega)])
      rw [HFL.out] at OW
      have HF2 := Lib.hid (show fitLen (mOf lots sz l).cots = fitLens (mOf lots sz l) from rfl)
      rw [HF2.out] at OW
      obtain ⟨T, hT⟩ : ∃ T, fitLens (mOf lots sz l) = T := ⟨_, rfl⟩
      rw [hT] at OW
      have HTL := Lib.hid (show T.length ≤ 7 by
        have h := fitLen_le (mOf lots sz l).cots
        have e : (mOf lots sz l).cots.length = n := by simp [HL.out]
        rw [e] at h
        rw [← hT]
        have := HN7.out
        exact Nat.le_trans h this)
      have HTO := Lib.hid (show ordI T T.length = sortedL (mOf lots sz l) by
        refine sorted_uniq ?_ (ordI_ok T T.length).1 (sortedL_ok _).1
        have h1 := (ordI_ok T T.length).2
        rw [List.take_length] at h1
        exact h1.trans ((List.Perm.of_eq hT.symm).trans (sortedL_ok _).2.symm))
      have HW3 := Lib.hid HW.out.size
      clear hT
      go_wp2_with fail
      refine (sortI_any T _ w3.heap.size wr (by have := HTL.out; omega) OW.out HW3.out).mono ?_
      rintro e w5 ⟨⟨r, rfl⟩, hO, hE⟩
      rw [HTO.out] at hO
      have HO5 := Lib.hid (show SlI w5 _ (sortedL (mOf lots sz l)) from hO.sl (fun _ => rfl))
      have HE5 := Lib.hid (show Ext w3 w5 from Below.trans HW.out hE)
      have HSV := Lib.hid (show ∀ x ∈ sortedL (mOf lots sz l), 1 ≤ x ∧ x ≤ 60 from fun x hx => by
        have h := (sortedL_ok (mOf lots sz l)).2.mem_iff.1 hx
        unfold fitLens at h
        obtain ⟨y, hy, rfl⟩ := List.mem_map.1 h
        exact HMO.out.len y (List.mem_filter.1 hy).1)
      have HSL := Lib.hid (show (sortedL (mOf lots sz l)).length ≤ 7 by
        have h := (ordI_ok T T.length).2.length_eq
        rw [HTO.out, List.take_length] at h
        rw [h]; exact HTL.out)
      clear hO hE OW HW
      obtain ⟨b0, b1, b2, bf, bl⟩ := (HB3.out.ext HE5.out).c3
      obtain ⟨z, hz⟩ : ∃ z, z + 1 = sz := ⟨sz - 1, by omega⟩
      have HZ := Lib.hid hz
      have hzw : IntKind.i64.wrap ((sz : Int) - 1) = (z : Int) := by rw [show (sz : Int) - 1 = (z : Int) by omega]; exact wrap_nat (by omega)
      clear hz
      obtain ⟨S, hS⟩ : ∃ S, sortedL (mOf lots sz l) = S := ⟨_, rfl⟩
      rw [hS] at HO5 HSV HSL HG
      clear hS
      go_wp2
      go_loopg [8, 11] 10 (fun gg s8 s11 wr => ∃ (A2 : Option Addr) (r c2 k : Nat) (R : List Int), s8 = .slice A2 r c2 ∧ s11 = .int .i64 (k : Int) ∧ r ≤ gg ∧ r ≤ 7 ∧ k ≤ 7 ∧ Aside (SlI w5 (.slice A2 r c2) R) ∧ Aside (k + gr L sz R = G) ∧ Aside (∀ x ∈ R, 1 ≤ x ∧ x ≤ 60) ∧ Aside (Ext w5 wr))
      case atStart =>
        obtain ⟨A2, r, c2, hv, hr, -, -⟩ := HO5.out.form
        refine ⟨A2, r, c2, 0, S, hv, by simp, by have := hr.out; have := HSL.out; omega, by have := hr.out; have := HSL.out; omega, by omega, hv ▸ HO5.out, by rw [Nat.zero_add]; exact HG.out, HSV.out, Ext.refl _⟩
      case round =>
        obtain ⟨A2, r, c2, k, R, rfl, rfl, hgr, hr7, hk7, SR, KR, VR, EW⟩ := hrel
        obtain ⟨A3, r3, c3, e3, hr3, hrc, hcm2⟩ := SR.out.form
        injection e3 with e31 e32 e33
        subst e31 e32 e33
        have HRL := Lib.hid (show R.length = r from hr3.out.symm)
        have HKG := Lib.hid (show k + gr L sz R ≤ 7 by
          have h1 := KR.out; have h2 := gr_le_len L sz (by omega) _ S (Nat.le_refl _); have := HSL.out; have := HG.out; omega)
        clear hr3
        by_cases hge : sz ≤ r
        · have hgez : (sz : Int) ≤ (r : Int) := by omega
          have hzr : z < r := by have := HZ.out; omega
          have hzrz : (z : Int) < (r : Int) := by omega
          have hzn : (0 : Int) ≤ (z : Int) := by omega
          have h0r : 0 < r := by omega
          have h0rz : (0 : Int) < (r : Int) := by omega
          have h1r : (1 : Int) ≤ (r : Int) := by omega
          have h1c : (1 : Int) ≤ (c2 : Int) := by omega
          have hsc : (sz : Int) ≤ (c2 : Int) := by omega
          have hrcz : (r : Int) ≤ (c2 : Int) := by omega
          have hszn : (0 : Int) ≤ (sz : Int) := by omega
          obtain ⟨b, off, y, rfl, hy, hbl, hcy⟩ := SR.out.at_ hzr
          obtain ⟨b', off', x, e2, hx, -, hcx⟩ := SR.out.at_ h0r
          injection e2 with e2
          injection e2 with e21 e22
          subst e21 e22
          have c0 := fun W' (h : Ext wr W') => SlI.cell hcy (EW.out.trans h)
          have c1 := fun W' (h : Ext wr W') => SlI.cell hcx (EW.out.trans h)
          simp only [Nat.add_zero] at c1
          obtain ⟨hy0, hy9⟩ := VR.out y (List.mem_of_getElem? hy)
          obtain ⟨hx0, hx9⟩ := VR.out x (List.mem_of_getElem? hx)
          have hyw : IntKind.i64.wrap (y - x) = y - x := by rw [IntKind.wrap_i64]; omega
          have HRD := Lib.hid (show R = x :: R.drop 1 by have := drop_at hx; rwa [List.drop_zero] at this)
          have HWIN := Lib.hid (show win L sz R = decide (y - x ≤ L) by
            unfold win
            rw [decide_eq_true (by have := HRL.out; omega), show sz - 1 = z by have := HZ.out; omega, hy, hx]
            rfl)
          have HGR := Lib.hid (show gr L sz R = if win L sz R then 1 + gr L sz (R.drop sz) else gr L sz (R.drop 1) by
            rw [HRD.out, gr_cons, List.drop_drop, ← HRD.out, show 1 + (sz - 1) = sz by omega])
          have HS1 := Lib.hid (show SlI w5 (.slice (some ⟨b, off + 1, none⟩) (r - 1) (c2 - 1)) (R.drop 1) by simpa only [Nat.mul_one] using SR.out.drop (k := 1) (c' := c2 - 1) (by omega) (by unfold maxLen; omega))
          have HSZ := Lib.hid (show SlI w5 (.slice (some ⟨b, off + sz, none⟩) (r - sz) (c2 - sz)) (R.drop sz) by simpa only [Nat.mul_one] using SR.out.drop (k := sz) (c' := c2 - sz) (by omega) (by unfold maxLen; omega))
          have HV1 := Lib.hid (show ∀ x ∈ R.drop 1, 1 ≤ x ∧ x ≤ 60 from fun x hx => VR.out x (List.mem_of_mem_drop hx))
          have HVZ := Lib.hid (show ∀ x ∈ R.drop sz, 1 ≤ x ∧ x ≤ 60 from fun x hx => VR.out x (List.mem_of_mem_drop hx))
          clear hx hy hcx hcy
          obtain ⟨b0, b1, b2, bf, bl⟩ := (HB3.out.ext (HE5.out.trans EW.out)).c3
          have hb1 := fun W' (h : Ext wr W') => (((HB3.out.ext (HE5.out.trans EW.out)).ext h).c3).2.1
          have HYX := Lib.hid hyw
          cases hyl : decide (y - x ≤ L) with
          | true =>
            have hle : ¬ L < y - x := by have := of_decide_eq_true hyl; omega
            have HKR := Lib.hid (show (k + 1) + gr L sz (R.drop sz) = G by rw [← KR.out, HGR.out, HWIN.out, hyl, if_pos rfl]; omega)
            have hk1 : IntKind.i64.wrap ((k : Int) + 1) = ((k + 1 : Nat) : Int) := by rw [show (k : Int) + 1 = ((k + 1 : Nat) : Int) by omega]; exact wrap_nat (by omega)
            have HK1 := Lib.hid (show k + 1 ≤ 7 by have h1 := HKG.out; rw [HGR.out, HWIN.out, hyl, if_pos rfl] at h1; omega)
            clear hyl
            go_wp2_with fail
            refine wp_region_tame (fun W => Ext wr W) (fun W W' => Ext W W') (by kernel_rfl) 67 rfl (by decide +kernel) (Ext.refl _).drew ?_
            repeat (apply tame_q rfl; (intro ρ W hC hr hD; (obtain ⟨hrc, hrg, hrf, hrs⟩ := hr); (simp [go_sem] at hD); go_simp; first | exact ⟨⟨hC, Ext.refl _⟩, rfl⟩ | exact ⟨⟨hC, RS.refl _⟩, rfl⟩ | exact rfl); simp only [List.nil_append, List.cons_append])
            refine tame_end 67 rfl rfl (fun ρ W' hC hr hF => ?_)
            obtain ⟨hrc', hrg, hrf, hrs⟩ := hr
            simp [go_sem] at hF
            apply frame_to
            · go_simp
              exact rfl
            have EW2 := Lib.hid (EW.out.trans hC)
            clear hF hrs hrc' hrg hrf hC c0 c1 hb1 b0 b1 b2 bf bl
            obtain ⟨b0, b1, b2, bf, bl⟩ := (HB3.out.ext (HE5.out.trans EW2.out)).c3
            by_cases hcc : c2 = sz
            · have HRN := Lib.hid (show R.drop sz = [] from List.drop_eq_nil_of_le (by have := HRL.out; omega))
              rw [HRN.out] at HKR
              go_wp2
              go_roundg 0
              case measure => omega
              case rel => exact ⟨some ⟨b, off, none⟩, 0, 0, k + 1, [], by first | rfl | (simp; omega), by first | rfl | simp [hk1], by omega, by omega, HK1.out, SlI.none (by unfold maxLen; omega), HKR.out, (fun x hx => by simp at hx), EW2.out⟩
            · have hnc : ¬ (c2 = sz) := hcc
              go_wp2
              go_roundg (r - sz)
              case measure => omega
              case rel => exact ⟨_, r - sz, _, k + 1, R.drop sz, by first | rfl | simp, by first | rfl | simp [hk1], by omega, by omega, HK1.out, HSZ.out, HKR.out, HVZ.out, EW2.out⟩
          | false =>
            have hle : L < y - x := by have := of_decide_eq_false hyl; omega
            have HKR := Lib.hid (show k + gr L sz (R.drop 1) = G by rw [← KR.out, HGR.out, HWIN.out, hyl, if_neg (by simp)])
            clear hyl
            go_wp2_with fail
            refine wp_region_tame (fun W => Ext wr W) (fun W W' => Ext W W') (by kernel_rfl) 67 rfl (by decide +kernel) (Ext.refl _).drew ?_
            repeat (apply tame_q rfl; (intro ρ W hC hr hD; (obtain ⟨hrc, hrg, hrf, hrs⟩ := hr); (simp [go_sem] at hD); go_simp; first | exact ⟨⟨hC, Ext.refl _⟩, rfl⟩ | exact ⟨⟨hC, RS.refl _⟩, rfl⟩ | exact rfl); simp only [List.nil_append, List.cons_append])
            refine tame_end 67 rfl rfl (fun ρ W' hC hr hF => ?_)
            obtain ⟨hrc', hrg, hrf, hrs⟩ := hr
            simp [go_sem] at hF
            apply frame_to
            · go_simp
              exact rfl
            have EW2 := Lib.hid (EW.out.trans hC)
            clear hF hrs hrc' hrg hrf hC c0 c1 hb1 b0 b1 b2 bf bl
            obtain ⟨b0, b1, b2, bf, bl⟩ := (HB3.out.ext (HE5.out.trans EW2.out)).c3
            by_cases hcc : c2 = 1
            · exfalso; omega
            · have hnc : ¬ (c2 = 1) := hcc
              go_wp2
              go_roundg (r - 1)
              case measure => omega
              case rel => exact ⟨_, r - 1, _, k, R.drop 1, by first | rfl | simp, rfl, by omega, by omega, by omega, HS1.out, HKR.out, HV1.out, EW2.out⟩
        · have hgez : ¬ (sz : Int) ≤ (r : Int) := by omega
          have hlz : (r : Int) < (sz : Int) := by omega
          have HKF := Lib.hid (show k = G by have h := KR.out; rw [gr_short L sz R (by have := HRL.out; omega)] at h; omega)
          obtain ⟨b0, b1, b2, bf, bl⟩ := (HB3.out.ext (HE5.out.trans EW.out)).c3
          have HEE := Lib.hid (HE3.out.trans (HE5.out.trans EW.out))
          go_wp2
          go_ret2
          exact ⟨by rw [← HV.out, ← HE0.out, HM.out.1, HM.out.2, HGN.out, ← HKF.out]; rfl, HEE.out⟩
end Go.Proofs.YtkpengeaolcjhaaGreatDoor
/- mill.Swap's order. -/
namespace Go.Proofs.YtkpengeaolcjhaaGreatDoor
open Go.RowKit Go.Shelf Go.Lib
set_option maxRecDepth 100000
set_option linter.unusedSimpArgs false

abbrev valX (x : Exg) : Value := .agg #[.int .i64 x.1, .int .i64 x.2.1, .int .i64 x.2.2.1, .int .i64 x.2.2.2]
/-- A slice of three numbers in new memory. -/
def ThrB (x y z : Int) (v : Value) (W : World) : Prop := ∃ b, v = .slice (some ⟨b, 0, none⟩) 3 3 ∧ Blk W b 3 #[.int .i64 x, .int .i64 y, .int .i64 z]
theorem ThrB.ext {x y z : Int} {v : Value} {W W' : World} (h : ThrB x y z v W) (e : Ext W W') : ThrB x y z v W' := by
  obtain ⟨b, h1, h2⟩ := h
  exact ⟨b, h1, h2.ext e⟩
theorem ThrB.sl {x y z : Int} {v : Value} {W : World} (h : ThrB x y z v W) : SlI W v [x, y, z] := by
  obtain ⟨b, rfl, hB⟩ := h
  refine ⟨_, 3, rfl, Nat.le_refl _, by unfold maxLen; decide, fun _ => ⟨b, 0, rfl, hB.lt, fun k u hk j t ht => ?_⟩⟩
  match j, ht with
  | 0, ht =>
    simp at ht; subst ht
    have := hB.cell k
    match k, hk with
    | 0, hk => simp at hk; subst hk; simpa using this
    | 1, hk => simp at hk; subst hk; simpa using this
    | 2, hk => simp at hk; subst hk; simpa using this
    | k + 3, hk => simp at hk
  | j + 1, ht => simp at ht
set_option maxHeartbeats 2000000 in
theorem f72_any (a b : Exg) (w : World) : Calls Tryz.prog 72 #[valX a, valX b] w fun e w' => e = .returned (.int .i64 (ordX a b)) ∧ Ext w w' := by
  have HOR := Lib.hid (show orL [ordU a.2.2 b.2.2, cmpI a.1 b.1, cmpI a.2.1 b.2.1] = ordX a b from rfl)
  obtain ⟨a0, a1, a2, a3⟩ := a
  obtain ⟨b0, b1, b2, b3⟩ := b
  go_enter Tryz.func72, Tryz.ntmps72
  go_wp2
  obtain ⟨w2, hw2⟩ : ∃ w2, w2 = (w.alloc (.cells #[.int .i64 a0, .int .i64 a1, .int .i64 a2, .int .i64 a3] 123)).alloc (.cells #[.int .i64 b0, .int .i64 b1, .int .i64 b2, .int .i64 b3] 123) := ⟨_, rfl⟩
  rw [← hw2]
  have B0 := Lib.hid (show Blk w2 w.heap.size 123 #[.int .i64 a0, .int .i64 a1, .int .i64 a2, .int .i64 a3] from hw2 ▸ (Blk.new _ _ _).alloc _)
  have B1 := Lib.hid (show Blk w2 (w.heap.size + 1) 123 #[.int .i64 b0, .int .i64 b1, .int .i64 b2, .int .i64 b3] from hw2 ▸ (Blk.at_ (by simp)))
  have E2 := Lib.hid (show Ext w w2 from hw2 ▸ (Ext.al _ _).alloc _)
  clear hw2
  have v0 := fun V (h : Ext w2 V) => (B0.out.ext h).c4
  have u0 := fun V (h : Ext w2 V) => (B1.out.ext h).c4
  refine wp_region_tame (fun W => Ext w2 W) (fun W W' => Ext W W') (by kernel_rfl) 22 rfl (by decide +kernel) (Ext.refl _).drew ?_
  repeat (apply tame_q rfl; (intro ρ W hC hr hD; (obtain ⟨hrc, hrg, hrf, hrs⟩ := hr); (simp [go_sem] at hD); go_simp; first | exact ⟨⟨hC, Ext.refl _⟩, rfl⟩ | exact ⟨⟨hC, RS.refl _⟩, rfl⟩ | exact rfl); simp only [List.nil_append, List.cons_append])
  apply tame_q rfl
  · intro ρ W hC hr hD
    obtain ⟨hrc, hrg, hrf, hrs⟩ := hr
    simp [go_sem] at hD
    go_simp
    refine (order_any (a2, a3) (b2, b3) W).mono ?_
    rintro e w' ⟨rfl, hE⟩
    exact ⟨_, rfl, ⟨hC.trans hE, hE⟩, rfl⟩
  simp only [List.nil_append, List.cons_append]
  repeat (apply tame_q rfl; (intro ρ W hC hr hD; (obtain ⟨hrc, hrg, hrf, hrs⟩ := hr); (simp [go_sem] at hD); go_simp; first | exact ⟨⟨hC, Ext.refl _⟩, rfl⟩ | exact ⟨⟨hC, RS.refl _⟩, rfl⟩ | exact rfl); simp only [List.nil_append, List.cons_append])
  apply tame_q rfl
  · intro ρ W hC hr hD
    obtain ⟨hrc, hrg, hrf, hrs⟩ := hr
    simp [go_sem] at hD
    go_simp
    refine (compare_any a0 b0 W).mono ?_
    rintro e w' ⟨rfl, hE⟩
    exact ⟨_, rfl, ⟨hC.trans hE, hE⟩, rfl⟩
  simp only [List.nil_append, List.cons_append]
  repeat (apply tame_q rfl; (intro ρ W hC hr hD; (obtain ⟨hrc, hrg, hrf, hrs⟩ := hr); (simp [go_sem] at hD); go_simp; first | exact ⟨⟨hC, Ext.refl _⟩, rfl⟩ | exact ⟨⟨hC, RS.refl _⟩, rfl⟩ | exact rfl); simp only [List.nil_append, List.cons_append])
  apply tame_q rfl
  · intro ρ W hC hr hD
    obtain ⟨hrc, hrg, hrf, hrs⟩ := hr
    simp [go_sem] at hD
    go_simp
    refine (compare_any a1 b1 W).mono ?_
    rintro e w' ⟨rfl, hE⟩
    exact ⟨_, rfl, ⟨hC.trans hE, hE⟩, rfl⟩
  simp only [List.nil_append, List.cons_append]
  apply tame_v rfl (ThrB (ordU (a2, a3) (b2, b3)) (cmpI a0 b0) (cmpI a1 b1)) (fun v V V' _ hE h => h.ext hE)
  · intro ρ V hC hr hD
    obtain ⟨hrc, hrg, hrf, hrs⟩ := hr
    simp [go_sem] at hD
    go_simp
    exact ⟨⟨hC.alloc _, Ext.al _ _⟩, ⟨_, rfl, Blk.new _ _ _⟩⟩
  simp only [List.nil_append, List.cons_append]
  apply tame_q rfl
  · intro ρ V hC hr hD
    obtain ⟨hrc, hrg, hrf, hrs⟩ := hr
    simp [go_sem] at hD
    go_simp
    refine (or_any _ _ V hD.1.sl).mono ?_
    rintro e w' ⟨rfl, hE⟩
    rw [HOR.out]
    exact ⟨_, rfl, ⟨hC.trans hE, hE⟩, rfl⟩
  simp only [List.nil_append, List.cons_append]
  repeat (apply tame_q rfl; (intro ρ W hC hr hD; (obtain ⟨hrc, hrg, hrf, hrs⟩ := hr); (simp [go_sem] at hD); go_simp; first | exact ⟨⟨hC, Ext.refl _⟩, rfl⟩ | exact ⟨⟨hC, RS.refl _⟩, rfl⟩ | exact rfl); simp only [List.nil_append, List.cons_append])
  refine tame_end 22 rfl rfl (fun ρ V hC hr hF => ?_)
  obtain ⟨hrc, hrg, hrf, hrs⟩ := hr
  simp [go_sem] at hF
  apply frame_to
  · go_simp
    exact rfl
  have HE := Lib.hid (E2.out.trans hC)
  clear hC hF hrs hrc hrg hrf v0 u0
  go_wp2
  go_ret
  exact ⟨rfl, HE.out⟩
end Go.Proofs.YtkpengeaolcjhaaGreatDoor
/- mill's judged. -/
namespace Go.Proofs.YtkpengeaolcjhaaGreatDoor
open Go.RowKit Go.Shelf Go.Lib
set_option maxRecDepth 100000
set_option linter.unusedSimpArgs false

theorem full_at (lt : Nat) (size : Int) (A : Option Addr) (n c m : Nat) (h3 : lt ≤ 3) (w : World) :
    Calls Tryz.prog 108 #[valT (lt : Int) size (.slice A n c) m] w fun e w' => e = .returned (valF (fl lt size 0) (fl lt size 1) (fl lt size 2)) ∧ Ext w w' := by
  refine (full_any lt size _ A n c m rfl h3 w).mono ?_
  rintro e w' ⟨⟨f0, f1, f2, rfl, h⟩, hE⟩
  have h' : [f0, f1, f2] = [fl lt size 0, fl lt size 1, fl lt size 2] := h
  injection h' with h0 h1
  injection h1 with h1 h2
  injection h2 with h2 _
  subst h0 h1 h2
  exact ⟨rfl, hE⟩
/-- What judged returns. -/
def JdT (lots size : Int) (l : List Rc) (p : List Int) (sv tv : Value) (W : World) : Prop :=
  (judgeE (mOf lots size l) p = 0 ∧ ∃ m nn, tv = valT lots size sv m ∧ MapB W m nn (fitTo l l.length)) ∨ (judgeE (mOf lots size l) p ≠ 0 ∧ tv = .agg #[.int .i64 0, .int .i64 0, .slice none 0 0, .map none])
/-- What stands still while judged walks over the plan. -/
structure JdS (lots size : Int) (A : Option Addr) (n c m tb fb : Nat) (w : World) (f1 f2 f3 : Int) (W : World) : Prop where
  e : Ext w W
  b : Blk W w.heap.size 24 #[.int .i64 lots, .int .i64 size, .slice A n c]
  t : Blk W (w.heap.size + 1) 95 #[.int .i64 0, .int .i64 0, .slice none 0 0, .map none]
  tb : Blk W tb 95 #[.int .i64 lots, .int .i64 size, .slice A n c, .map (some m)]
  f : Blk W fb 176 #[.int .i64 f1, .int .i64 f2, .int .i64 f3]
theorem JdS.ext {lots size : Int} {A : Option Addr} {n c m tb fb : Nat} {w : World} {f1 f2 f3 : Int} {W W' : World} (h : JdS lots size A n c m tb fb w f1 f2 f3 W) (e : Ext W W') : JdS lots size A n c m tb fb w f1 f2 f3 W' :=
  ⟨h.e.trans e, h.b.ext e, h.t.ext e, h.tb.ext e, h.f.ext e⟩
section
variable {lots size : Int} {A : Option Addr} {n c m tb fb : Nat} {w : World} {f1 f2 f3 : Int} {W : World}
theorem JdS.put1 (h : JdS lots size A n c m tb fb w f1 f2 f3 W) (h1 : w.heap.size + 1 < tb) (h2 : tb < fb) (y : Int) : JdS lots size A n c m tb fb w y f2 f3 (W.setCell ⟨fb, 0, none⟩ (.int .i64 y)) :=
  ⟨h.e.setCell (by dsimp only; omega) _, h.b.far (by dsimp only; omega) _, h.t.far (by dsimp only; omega) _, h.tb.far (by dsimp only; omega) _, by have := h.f.set_ 0 (.int .i64 y); simpa using this⟩
theorem JdS.put2 (h : JdS lots size A n c m tb fb w f1 f2 f3 W) (h1 : w.heap.size + 1 < tb) (h2 : tb < fb) (y : Int) : JdS lots size A n c m tb fb w f1 y f3 (W.setCell ⟨fb, 1, none⟩ (.int .i64 y)) :=
  ⟨h.e.setCell (by dsimp only; omega) _, h.b.far (by dsimp only; omega) _, h.t.far (by dsimp only; omega) _, h.tb.far (by dsimp only; omega) _, by have := h.f.set_ 1 (.int .i64 y); simpa using this⟩
theorem JdS.put3 (h : JdS lots size A n c m tb fb w f1 f2 f3 W) (h1 : w.heap.size + 1 < tb) (h2 : tb < fb) (y : Int) : JdS lots size A n c m tb fb w f1 f2 y (W.setCell ⟨fb, 2, none⟩ (.int .i64 y)) :=
  ⟨h.e.setCell (by dsimp only; omega) _, h.b.far (by dsimp only; omega) _, h.t.far (by dsimp only; omega) _, h.tb.far (by dsimp only; omega) _, by have := h.f.set_ 2 (.int .i64 y); simpa using this⟩
end
theorem ret_set4A {P : Program} {fn : Func} {R : Ending → World → Prop} {ex : Exit} {a : Act} {w1 : World} {g : Nat} {t : TypeId} {x0 x1 x2 x3 y0 y1 y2 y3 : Value} {o : Obj} (hB : Blk w1 g t #[x0, x1, x2, x3])
    (h : ∀ W, (W.cell? ⟨g, 0, none⟩ = some y0 ∧ W.cell? ⟨g, 1, none⟩ = some y1 ∧ W.cell? ⟨g, 2, none⟩ = some y2 ∧ W.cell? ⟨g, 3, none⟩ = some y3) → w1.grownBy W (some g) → bodyPost P fn R ex a W) :
    bodyPost P fn R ex a (((((w1.setCell ⟨g, 0, none⟩ y0).setCell ⟨g, 1, none⟩ y1).setCell ⟨g, 2, none⟩ y2).setCell ⟨g, 3, none⟩ y3).alloc o) := by
  have K := ((((hB.set_ 0 y0).set_ 1 y1).set_ 2 y2).set_ 3 y3).alloc o
  exact h _ ⟨K.cell 0, K.cell 1, K.cell 2, K.cell 3⟩ (grown_ext (grown_set (grown_set (grown_set (grown_set (World.grownBy.refl _ _) (p := ⟨g, 0, none⟩) (.inl rfl) y0) (p := ⟨g, 1, none⟩) (.inl rfl) y1) (p := ⟨g, 2, none⟩) (.inl rfl) y2) (p := ⟨g, 3, none⟩) (.inl rfl) y3) (Ext.al _ _))
theorem MapB.put {W : World} {m n b i : Nat} {g : Int → Bool} (h : MapB W m n g) (hm : m ≠ b) (u : Value) : MapB (W.setCell ⟨b, i, none⟩ u) m n g :=
  h.at_ ((grown_set (World.grownBy.refl W (some b)) (p := ⟨b, i, none⟩) (.inl rfl) u).block m h.lt (by simpa using hm))
theorem wrap_at {x : Int} (h1 : 0 ≤ x) (h2 : x ≤ 100000) : IntKind.i64.wrap x = x := by
  have := wrap_nat (k := x.toNat) (by omega)
  rwa [show ((x.toNat : Nat) : Int) = x by omega] at this
theorem fit_at {lots size : Int} {l : List Rc} {k : Nat} {r : Rc} (h : l[k]? = some r) : (fitL (mOf lots size l))[k]? = some (fitB r.c) := by simp [fitL, h]
set_option maxHeartbeats 4000000 in
theorem judged_any (lots size : Int) (l : List Rc) (p : List Int) (sv pv : Value) (w : World) (hT : TabM w) (hs : MlC w sv l) (hp : SlI w pv p) (hlen : l.length ≤ 1000) :
    Calls Tryz.prog 69 #[valM lots size sv, pv] w fun e w' => (∃ tv, e = .returned (.tuple #[tv, .int .i64 (judgeE (mOf lots size l) p)]) ∧ JdT lots size l p sv tv w') ∧ Ext w w' := by
  have HS := Lib.hid hs; have HT := Lib.hid hT; have HLN := Lib.hid hlen; have HP := Lib.hid hp
  obtain ⟨A, n, c, rfl, hn, hlc, hcm⟩ := hs.1.form
  obtain ⟨A2, n2, c2, rfl, hn2, hlc2, hcm2⟩ := hp.form
  have HL := Lib.hid (show l.length = n from hn.out.symm)
  have HL2 := Lib.hid (show p.length = n2 from hn2.out.symm)
  have hnb : n ≤ 1000 := by have := hn.out; omega
  clear hs hT hn hn2 hp hlen
  go_enter Tryz.func69, Tryz.ntmps69
  go_wp2_with fail
  obtain ⟨w0, hw0⟩ : ∃ w0, w0 = (w.alloc (.cells #[.int .i64 lots, .int .i64 size, .slice A n c] 24)).alloc (.cells #[.int .i64 0, .int .i64 0, .slice none 0 0, .map none] 95) := ⟨_, rfl⟩
  rw [← hw0]
  have E0 := Lib.hid (show Ext w w0 from hw0 ▸ (Ext.al _ _).alloc _)
  have B0 := Lib.hid (show Blk w0 w.heap.size 24 #[.int .i64 lots, .int .i64 size, .slice A n c] from hw0 ▸ (Blk.new _ _ _).alloc _)
  have T0 := Lib.hid (show Blk w0 (w.heap.size + 1) 95 #[.int .i64 0, .int .i64 0, .slice none 0 0, .map none] from hw0 ▸ Blk.at_ (by simp))
  clear hw0
  refine (checkM_any lots size l _ _ (HT.out.ext E0.out) (HS.out.ext E0.out) HLN.out).mono ?_
  rintro e w1 ⟨rfl, hE⟩
  have E1 := Lib.hid (E0.out.trans hE); have B1 := Lib.hid (B0.out.ext hE); have T1 := Lib.hid (T0.out.ext hE)
  clear hE E0 B0 T0
  obtain ⟨b0, b1, b2, bf, bl⟩ := B1.out.c3
  obtain ⟨t0, t1, t2, t3, tf, tl⟩ := T1.out.c4
  cases hc : checkM (mOf lots size l)
  · have HC := Lib.hid hc
    simp only [errB]
    clear hc
    go_wp2
    refine ret_set4 (T1.out) fun W' ⟨z0, z1, z2, z3⟩ hW => ?_
    refine bodyPost_ret (v := .tuple #[.agg #[.int .i64 0, .int .i64 0, .slice none 0 0, .map none], .int .i64 (90)]) (by simp only [results, Tryz.results69]; simp [go_sem, z0, z1, z2, z3]) rfl ?_
    exact ⟨⟨_, by rw [judgeE_no HC.out], .inr ⟨by rw [judgeE_no HC.out]; decide, rfl⟩⟩, ext_grownP (E1.out) hW (by omega)⟩
  have HC := Lib.hid hc
  simp only [errB]
  clear hc
  go_wp2_with fail
  refine (laid_any lots size l _ _ (HT.out.1.ext E1.out) (HS.out.ext E1.out) HLN.out).mono ?_
  rintro e w2 ⟨⟨m, nn, rfl, hm0, -, hmp⟩, hE⟩
  have E2 := Lib.hid (E1.out.trans hE); have HMP := Lib.hid hmp
  have B2 := Lib.hid (B1.out.ext hE); have T2 := Lib.hid (T1.out.ext hE)
  have hz2 : w.heap.size + 1 < w2.heap.size := T2.out.lt
  have hmw : w.heap.size + 1 < m := by have := T1.out.lt; omega
  clear hE hmp b0 b1 b2 bf bl t0 t1 t2 t3 tf tl B1 T1 E1 hm0
  obtain ⟨b0, b1, b2, bf, bl⟩ := B2.out.c3
  obtain ⟨t0, t1, t2, t3, tf, tl⟩ := T2.out.c4
  by_cases hnn : (n2 : Int) = (n : Int)
  · have h2 : n2 = n := by omega
    subst h2
    clear hnn
    go_wp2_with fail
    obtain ⟨w3, hw3⟩ : ∃ w3, w3 = w2.alloc (.cells #[.int .i64 lots, .int .i64 size, .slice A n2 c, .map (some m)] 95) := ⟨_, rfl⟩
    rw [← hw3]
    have E3 := Lib.hid (show Ext w2 w3 from hw3 ▸ Ext.al _ _)
    have TB3 := Lib.hid (show Blk w3 w2.heap.size 95 #[.int .i64 lots, .int .i64 size, .slice A n2 c, .map (some m)] from hw3 ▸ Blk.new _ _ _)
    clear hw3 b0 b1 b2 bf bl t0 t1 t2 t3 tf tl
    refine (inM_any 0 lots p _ _ (HP.out.ext (E2.out.trans E3.out))).mono ?_
    rintro e w4 ⟨rfl, hE⟩
    have E4 := Lib.hid (E2.out.trans (E3.out.trans hE)); have TB4 := Lib.hid (TB3.out.ext hE)
    have B4 := Lib.hid (B2.out.ext (E3.out.trans hE)); have T4 := Lib.hid (T2.out.ext (E3.out.trans hE)); have HMP4 := Lib.hid (HMP.out.ext (E3.out.trans hE))
    clear hE B2 T2 HMP TB3 E3 E2
    obtain ⟨t0, t1, t2, t3, tf, tl⟩ := T4.out.c4
    cases hin : p.all (inB 0 lots)
    · have HI := Lib.hid (okPlan_in (m := mOf lots size l) hin)
      clear hin
      go_wp2
      refine ret_set4 (T4.out) fun W' ⟨z0, z1, z2, z3⟩ hW => ?_
      refine bodyPost_ret (v := .tuple #[.agg #[.int .i64 0, .int .i64 0, .slice none 0 0, .map none], .int .i64 (91)]) (by simp only [results, Tryz.results69]; simp [go_sem, z0, z1, z2, z3]) rfl ?_
      exact ⟨⟨_, by rw [judgeE_bad HC.out HI.out], .inr ⟨by rw [judgeE_bad HC.out HI.out]; decide, rfl⟩⟩, ext_grownP (E4.out) hW (by omega)⟩
    · have HI := Lib.hid hin
      clear hin
      have hM := mok_of HC.out
      have hl1 : 1 ≤ lots := hM.l1
      have hl3 : lots ≤ 3 := hM.l3
      have hn7 : n2 ≤ 7 := by have h := hM.n7; simp at h; have := HL.out; omega
      clear hM
      go_wp2
      obtain ⟨w5, hw5⟩ : ∃ w5, w5 = w4.alloc (.cells #[.int .i64 0, .int .i64 0, .int .i64 0] 176) := ⟨_, rfl⟩
      rw [← hw5]
      have S5 := Lib.hid (show JdS lots size A n2 c m w2.heap.size w4.heap.size w (cntP p 0 1) (cntP p 0 2) (cntP p 0 3) w5 from hw5 ▸ ⟨E4.out.alloc _, B4.out.alloc _, T4.out.alloc _, TB4.out.alloc _, Blk.new _ _ _⟩)
      have HMP5 := Lib.hid (show MapB w5 m nn (fitTo l l.length) from hw5 ▸ HMP4.out.ext (Ext.al _ _))
      have htb : w2.heap.size < w4.heap.size := TB4.out.lt
      have hmf : m < w4.heap.size := HMP4.out.lt
      clear hw5 E4 TB4 B4 T4 HMP4 t0 t1 t2 t3 tf tl
      have wr0 : IntKind.i64.wrap 0 = 0 := by decide
      have wr1 : IntKind.i64.wrap 1 = 1 := by decide
      have wr2 : IntKind.i64.wrap 2 = 2 := by decide
      generalize hFB : w4.heap.size = fb at *
      clear hFB
      go_loopg [35] n2 (fun gg s wr => ∃ kk : Nat, kk ≤ n2 ∧ n2 - kk ≤ gg ∧ s = .int .i64 (kk : Int) ∧ Aside (∀ (j : Nat) (a : Int) (b : Bool), j < kk → p[j]? = some a → (fitL (mOf lots size l))[j]? = some b → 0 < a → b = true) ∧ Aside (JdS lots size A n2 c m w2.heap.size fb w (cntP p kk 1) (cntP p kk 2) (cntP p kk 3) wr) ∧ Aside (MapB wr m nn (fitTo l l.length)))
      case atStart => exact ⟨0, by omega, by omega, by simp, fun j a b h => absurd h (by omega), S5.out, HMP5.out⟩
      case round =>
        obtain ⟨kk, hkk, hgg, rfl, IV, S, MP⟩ := hrel
        clear S5 HMP5
        obtain ⟨b0, b1, b2, bf, bl⟩ := S.out.b.c3
        obtain ⟨t0, t1, t2, t3, tf, tl⟩ := S.out.t.c4
        obtain ⟨d0, d1, d2, d3, df, dl⟩ := S.out.tb.c4
        obtain ⟨g0, g1, g2, gf, gl⟩ := S.out.f.c3
        by_cases hlt : kk < n2
        · have hltz : (kk : Int) < (n2 : Int) := by omega
          have hin : In64 (kk : Int) := by unfold In64; omega
          obtain ⟨x, hx⟩ : ∃ x, l[kk]? = some x := ⟨_, List.getElem?_eq_getElem (by have := HL.out; omega)⟩
          obtain ⟨bi, offi, y, rfl, hy, hb, hcell⟩ := HP.out.at_ hlt
          have c0 := SlI.cell hcell S.out.e
          have lk := MP.out.look hin
          rw [fitTo_at hx] at lk
          have hyr : 0 ≤ y ∧ y ≤ lots := by
            have := List.all_eq_true.1 HI.out y (List.mem_of_getElem? hy)
            exact inB_iff.1 this
          have hIV : (0 < y → fitB x.c = true) → ∀ (j : Nat) (a : Int) (b : Bool), j < kk + 1 → p[j]? = some a → (fitL (mOf lots size l))[j]? = some b → 0 < a → b = true := by
            intro h j a b hj h1 h2 h3
            by_cases he : j = kk
            · subst he
              rw [hy] at h1; rw [fit_at hx] at h2
              injection h1 with h1; injection h2 with h2
              subst h1 h2
              exact h h3
            · exact IV.out j a b (by omega) h1 h2 h3
          clear hcell hb
          have hy4 : y = 0 ∨ y = 1 ∨ y = 2 ∨ y = 3 := by omega
          rcases hy4 with rfl | rfl | rfl | rfl
          · have hIV2 := Lib.hid (hIV (fun h => absurd h (by decide)))
            clear hIV
            go_wp2
            go_roundg (n2 - (kk + 1))
            case measure => omega
            case rel => exact ⟨kk + 1, by omega, by omega, by simp, hIV2.out, by rw [cntP_succ hy 1, cntP_succ hy 2, cntP_succ hy 3]; show JdS _ _ _ _ _ _ _ _ _ _ _ _ _; simpa using S.out, MP.out⟩
          · replace hIV := fun h => hIV (fun _ => h)
            have h1 := cntP_bd p kk (1)
            have hw : IntKind.i64.wrap (cntP p kk (1) + 1) = cntP p kk (1) + 1 := wrap_at (by omega) (by omega)
            have hS := Lib.hid (S.out.put1 hz2 htb (cntP p kk (1) + 1))
            have hMP := Lib.hid (MP.out.put (b := fb) (i := 0) (by omega) (.int .i64 (cntP p kk (1) + 1)))
            replace lk := hMP.out.look hin
            rw [fitTo_at hx] at lk
            clear h1
            cases hfx : fitB x.c
            · have HF := Lib.hid (okPlan_fit (m := mOf lots size l) (fitOk_no hy (fit_at hx) (by decide) hfx))
              rw [hfx] at lk
              clear hfx
              go_wp2
              refine ret_set4 (hS.out.t) fun W' ⟨z0, z1, z2, z3⟩ hW => ?_
              refine bodyPost_ret (v := .tuple #[.agg #[.int .i64 0, .int .i64 0, .slice none 0 0, .map none], .int .i64 (91)]) (by simp only [results, Tryz.results69]; simp [go_sem, z0, z1, z2, z3]) rfl ?_
              exact ⟨⟨_, by rw [judgeE_bad HC.out HF.out], .inr ⟨by rw [judgeE_bad HC.out HF.out]; decide, rfl⟩⟩, ext_grownP (hS.out.e) hW (by omega)⟩
            · have HFX := Lib.hid hfx
              rw [hfx] at lk
              clear hfx
              go_wp2
              go_roundg (n2 - (kk + 1))
              case measure => omega
              case rel => exact ⟨kk + 1, by omega, by omega, by simp, hIV HFX.out, by rw [cntP_succ hy 1, cntP_succ hy 2, cntP_succ hy 3]; show JdS _ _ _ _ _ _ _ _ _ _ _ _ _; simpa using hS.out, hMP.out⟩
          · replace hIV := fun h => hIV (fun _ => h)
            have h1 := cntP_bd p kk (2)
            have hw : IntKind.i64.wrap (cntP p kk (2) + 1) = cntP p kk (2) + 1 := wrap_at (by omega) (by omega)
            have hS := Lib.hid (S.out.put2 hz2 htb (cntP p kk (2) + 1))
            have hMP := Lib.hid (MP.out.put (b := fb) (i := 1) (by omega) (.int .i64 (cntP p kk (2) + 1)))
            replace lk := hMP.out.look hin
            rw [fitTo_at hx] at lk
            clear h1
            cases hfx : fitB x.c
            · have HF := Lib.hid (okPlan_fit (m := mOf lots size l) (fitOk_no hy (fit_at hx) (by decide) hfx))
              rw [hfx] at lk
              clear hfx
              go_wp2
              refine ret_set4 (hS.out.t) fun W' ⟨z0, z1, z2, z3⟩ hW => ?_
              refine bodyPost_ret (v := .tuple #[.agg #[.int .i64 0, .int .i64 0, .slice none 0 0, .map none], .int .i64 (91)]) (by simp only [results, Tryz.results69]; simp [go_sem, z0, z1, z2, z3]) rfl ?_
              exact ⟨⟨_, by rw [judgeE_bad HC.out HF.out], .inr ⟨by rw [judgeE_bad HC.out HF.out]; decide, rfl⟩⟩, ext_grownP (hS.out.e) hW (by omega)⟩
            · have HFX := Lib.hid hfx
              rw [hfx] at lk
              clear hfx
              go_wp2
              go_roundg (n2 - (kk + 1))
              case measure => omega
              case rel => exact ⟨kk + 1, by omega, by omega, by simp, hIV HFX.out, by rw [cntP_succ hy 1, cntP_succ hy 2, cntP_succ hy 3]; show JdS _ _ _ _ _ _ _ _ _ _ _ _ _; simpa using hS.out, hMP.out⟩
          · replace hIV := fun h => hIV (fun _ => h)
            have h1 := cntP_bd p kk (3)
            have hw : IntKind.i64.wrap (cntP p kk (3) + 1) = cntP p kk (3) + 1 := wrap_at (by omega) (by omega)
            have hS := Lib.hid (S.out.put3 hz2 htb (cntP p kk (3) + 1))
            have hMP := Lib.hid (MP.out.put (b := fb) (i := 2) (by omega) (.int .i64 (cntP p kk (3) + 1)))
            replace lk := hMP.out.look hin
            rw [fitTo_at hx] at lk
            clear h1
            cases hfx : fitB x.c
            · have HF := Lib.hid (okPlan_fit (m := mOf lots size l) (fitOk_no hy (fit_at hx) (by decide) hfx))
              rw [hfx] at lk
              clear hfx
              go_wp2
              refine ret_set4 (hS.out.t) fun W' ⟨z0, z1, z2, z3⟩ hW => ?_
              refine bodyPost_ret (v := .tuple #[.agg #[.int .i64 0, .int .i64 0, .slice none 0 0, .map none], .int .i64 (91)]) (by simp only [results, Tryz.results69]; simp [go_sem, z0, z1, z2, z3]) rfl ?_
              exact ⟨⟨_, by rw [judgeE_bad HC.out HF.out], .inr ⟨by rw [judgeE_bad HC.out HF.out]; decide, rfl⟩⟩, ext_grownP (hS.out.e) hW (by omega)⟩
            · have HFX := Lib.hid hfx
              rw [hfx] at lk
              clear hfx
              go_wp2
              go_roundg (n2 - (kk + 1))
              case measure => omega
              case rel => exact ⟨kk + 1, by omega, by omega, by simp, hIV HFX.out, by rw [cntP_succ hy 1, cntP_succ hy 2, cntP_succ hy 3]; show JdS _ _ _ _ _ _ _ _ _ _ _ _ _; simpa using hS.out, hMP.out⟩
        · have hke : kk = n2 := by omega
          subst hke
          have e1 := cntP_full (p := p) (k := kk) (by have := HL2.out; omega) 1
          have e2 := cntP_full (p := p) (k := kk) (by have := HL2.out; omega) 2
          have e3 := cntP_full (p := p) (k := kk) (by have := HL2.out; omega) 3
          rw [e1, e2, e3] at S
          rw [e1] at g0
          rw [e2] at g1
          rw [e3] at g2
          obtain ⟨lt, rfl⟩ : ∃ lt : Nat, lots = (lt : Int) := ⟨lots.toNat, by omega⟩
          have hfit := Lib.hid (fitOk_yes (p := p) (fit := fitL (mOf lt size l)) fun j a b h1 h2 h3 => IV.out j a b (by have := (List.getElem?_eq_some_iff.1 h1).1; have := HL2.out; omega) h1 h2 h3)
          have HFF := Lib.hid (show [fl lt size 0, fl lt size 1, fl lt size 2] = fullF lt size from rfl)
          have hlt3 : lt ≤ 3 := by omega
          clear e1 e2 e3 IV b0 b1 b2 bf bl t0 t1 t2 t3 tf tl d0 d1 d2 d3 df dl g0 g1 g2 gf gl
          generalize hc1 : inLot p 1 = i1 at *
          generalize hc2 : inLot p 2 = i2 at *
          generalize hc3 : inLot p 3 = i3 at *
          have HCN := Lib.hid (show [inLot p 1, inLot p 2, inLot p 3] = [i1, i2, i3] by rw [hc1, hc2, hc3])
          clear hc1 hc2 hc3
          obtain ⟨F0, F1, F2, HFA, HFE⟩ : ∃ F0 F1 F2, Hid (∀ w, Calls Tryz.prog 108 #[valT (lt : Int) size (.slice A kk c) m] w fun e w' => e = .returned (valF F0 F1 F2) ∧ Ext w w') ∧ Hid ([F0, F1, F2] = fullF lt size) :=
            ⟨_, _, _, Lib.hid (fun w => full_at lt size A kk c m hlt3 w), HFF⟩
          obtain ⟨bq, HBQ⟩ : ∃ bq, Hid ((!decide ([i1, i2, i3] = [F0, F1, F2])) = bq) := ⟨_, Lib.hid rfl⟩
          have nq : ∀ W, (binOp .neq 176 (valF i1 i2 i3) (valF F0 F1 F2)).run Tryz.prog W = .ok (.bool bq) W := fun W => by rw [← HBQ.out]; exact neqF i1 i2 i3 F0 F1 F2 W
          have m0 := fun W (h : Ext wr W) => (S.out.ext h).f.c3
          have m1 := fun W (h : Ext wr W) => (S.out.ext h).tb.c4
          go_wp2
          refine wp_region_tame (fun W => Ext wr W) (fun W W' => Ext W W') (by kernel_rfl) 65 rfl (by decide +kernel) (Ext.refl _).drew ?_
          repeat (apply tame_q rfl; (intro ρ W hC hr hD; (obtain ⟨hrc, hrg, hrf, hrs⟩ := hr); (simp [go_sem] at hD); go_simp; first | exact ⟨⟨hC, Ext.refl _⟩, rfl⟩ | exact ⟨⟨hC, RS.refl _⟩, rfl⟩ | exact rfl); simp only [List.nil_append, List.cons_append])
          apply tame_q rfl
          · intro ρ W hC hr hD
            obtain ⟨hrc, hrg, hrf, hrs⟩ := hr
            simp [go_sem] at hD
            go_simp
            refine (HFA.out W).mono ?_
            rintro e w' ⟨rfl, hE⟩
            exact ⟨_, rfl, ⟨hC.trans hE, hE⟩, rfl⟩
          simp only [List.nil_append, List.cons_append]
          repeat (apply tame_q rfl; (intro ρ W hC hr hD; (obtain ⟨hrc, hrg, hrf, hrs⟩ := hr); (simp [go_sem] at hD); go_simp; first | exact ⟨⟨hC, Ext.refl _⟩, rfl⟩ | exact ⟨⟨hC, RS.refl _⟩, rfl⟩ | exact rfl); simp only [List.nil_append, List.cons_append])
          refine tame_end_put rfl rfl (fun ρ W hC hr hF => ?_)
          simp [go_sem] at hF
          simp only [putF, hF, List.set_cons_succ, List.set_cons_zero]
          clear hF hr
          have S2 := Lib.hid (S.out.ext hC); have MP2 := Lib.hid (MP.out.ext hC)
          clear hC m0 m1 nq S MP
          obtain ⟨t0, t1, t2, t3, tf, tl⟩ := S2.out.t.c4
          obtain ⟨d0, d1, d2, d3, df, dl⟩ := S2.out.tb.c4
          cases bq
          · have HO := Lib.hid (okPlan_yes (m := mOf lt size l) (p := p) (by simp; have := HL.out; have := HL2.out; omega) HI.out hfit.out (by rw [HCN.out]; have := HBQ.out; simp only [Bool.not_eq_false', decide_eq_true_eq] at this; rw [this, HFE.out]; rfl))
            go_wp2
            refine ret_set4 S2.out.t fun W' ⟨z0, z1, z2, z3⟩ hW => ?_
            refine bodyPost_ret (v := .tuple #[valT lt size (.slice A kk c) m, .int .i64 0]) (by simp only [results, Tryz.results69]; simp [go_sem, z0, z1, z2, z3]) rfl ?_
            exact ⟨⟨_, by rw [judgeE_ok HC.out HO.out], .inl ⟨judgeE_ok HC.out HO.out, m, nn, rfl, MP2.out.at_ (hW.block m MP2.out.lt (by simp; omega))⟩⟩, ext_grownP S2.out.e hW (by omega)⟩
          · have HO := Lib.hid (okPlan_cnt (m := mOf lt size l) (p := p) (by rw [HCN.out]; have := HBQ.out; simp only [Bool.not_eq_true', decide_eq_false_iff_not] at this; rw [HFE.out] at this; exact this))
            go_wp2
            refine ret_set4 (S2.out.t) fun W' ⟨z0, z1, z2, z3⟩ hW => ?_
            refine bodyPost_ret (v := .tuple #[.agg #[.int .i64 0, .int .i64 0, .slice none 0 0, .map none], .int .i64 (91)]) (by simp only [results, Tryz.results69]; simp [go_sem, z0, z1, z2, z3]) rfl ?_
            exact ⟨⟨_, by rw [judgeE_bad HC.out HO.out], .inr ⟨by rw [judgeE_bad HC.out HO.out]; decide, rfl⟩⟩, ext_grownP (S2.out.e) hW (by omega)⟩
  · have HN := Lib.hid (okPlan_len (m := mOf lots size l) (p := p) (by simp; have := HL.out; have := HL2.out; omega))
    go_wp2
    refine ret_set4A T2.out fun W' ⟨z0, z1, z2, z3⟩ hW => ?_
    refine bodyPost_ret (v := .tuple #[.agg #[.int .i64 0, .int .i64 0, .slice none 0 0, .map none], .int .i64 (91)]) (by simp only [results, Tryz.results69]; simp [go_sem, z0, z1, z2, z3]) rfl ?_
    exact ⟨⟨_, by rw [judgeE_bad HC.out HN.out], .inr ⟨by rw [judgeE_bad HC.out HN.out]; decide, rfl⟩⟩, ext_grownP (E2.out) hW (by omega)⟩
end Go.Proofs.YtkpengeaolcjhaaGreatDoor
/- mill's exchanges: the sequence is made. -/
namespace Go.Proofs.YtkpengeaolcjhaaGreatDoor
open Go.RowKit Go.Shelf Go.Lib
set_option maxRecDepth 100000
set_option linter.unusedSimpArgs false

set_option maxHeartbeats 2000000 in
theorem exchanges_any (lt : Nat) (size : Int) (l : List Rc) (p : List Int) (A A2 : Option Addr) (n c n2 c2 m : Nat) (w : World) (hm : Mok (mOf lt size l)) (hs : SlC w (.slice A n c) l) (hp : SlI w (.slice A2 n2 c2) p) (hpo : POk lt l.length p) :
    Calls Tryz.prog 71 #[valT (lt : Int) size (.slice A n c) m, .slice A2 n2 c2] w fun e w' => (∃ bu, e = .returned (.func (.func 109) #[] #[.pointer (some ⟨w.heap.size + 1, 0, none⟩), .pointer (some ⟨w.heap.size, 0, none⟩), .pointer (some ⟨bu, 0, none⟩)]) ∧ w.heap.size + 1 < bu ∧
      Blk w' w.heap.size 95 #[.int .i64 (lt : Int), .int .i64 size, .slice A n c, .map (some m)] ∧ Blk w' (w.heap.size + 1) 36 #[.slice A2 n2 c2] ∧ Blk w' bu 106 #[.int .i64 (unev (mOf lt size l) p).1, .int .i64 (unev (mOf lt size l) p).2]) ∧ Ext w w' := by
  have hmf := hmf Tryz.prog
  have HS := Lib.hid hs; have HP := Lib.hid hp; have HM := Lib.hid hm; have HPO := Lib.hid hpo
  clear hs hp hm hpo
  go_enter Tryz.func71, Tryz.ntmps71
  go_wp2_with fail
  obtain ⟨w2, hw2⟩ : ∃ w2, w2 = (w.alloc (.cells #[.int .i64 (lt : Int), .int .i64 size, .slice A n c, .map (some m)] 95)).alloc (.cells #[.slice A2 n2 c2] 36) := ⟨_, rfl⟩
  rw [← hw2]
  have E2 := Lib.hid (show Ext w w2 from hw2 ▸ (Ext.al _ _).alloc _)
  have B0 := Lib.hid (show Blk w2 w.heap.size 95 #[.int .i64 (lt : Int), .int .i64 size, .slice A n c, .map (some m)] from hw2 ▸ (Blk.new _ _ _).alloc _)
  have B1 := Lib.hid (show Blk w2 (w.heap.size + 1) 36 #[.slice A2 n2 c2] from hw2 ▸ Blk.at_ (by simp))
  clear hw2
  refine (of_any lt size l p _ _ (some m) _ HM.out (HS.out.ext E2.out) (HP.out.ext E2.out) HPO.out).mono ?_
  rintro e w3 ⟨rfl, hE⟩
  have E3 := Lib.hid (E2.out.trans hE)
  have K0 := Lib.hid (B0.out.ext hE); have K1 := Lib.hid (B1.out.ext hE)
  clear hE E2 B0 B1
  obtain ⟨u, hu⟩ : ∃ u, unev (mOf lt size l) p = u := ⟨_, rfl⟩
  rw [hu]
  have HU := Lib.hid hu
  clear hu
  go_wp2
  go_ret
  exact ⟨⟨w3.heap.size, rfl, K1.out.lt, K0.out.alloc _, K1.out.alloc _, by rw [HU.out]; exact Blk.new _ _ _⟩, E3.out.alloc _⟩
end Go.Proofs.YtkpengeaolcjhaaGreatDoor
/- A number is put into a list of the call's own. -/
namespace Go.Proofs.YtkpengeaolcjhaaGreatDoor
open Go.RowKit Go.Shelf
set_option linter.unusedSimpArgs false

/-- The list lies in the block g, whose cells are known. -/
structure OwB (g : Nat) (cap : Nat) (l : List Int) (W : World) : Prop where
  blk : ∃ cur : Array Value, Blk W g 3 cur ∧ cur.size = cap ∧ cur.toList.take l.length = l.flatMap encI
  le : l.length ≤ cap
  mx : cap ≤ maxLen
theorem OwB.of {base : Nat} {v : Value} {l : List Int} {W : World} (h : Own encI 3 1 W base v l) (h0 : 0 < l.length) : ∃ g cap, v = .slice (some ⟨g, 0, none⟩) l.length cap ∧ base ≤ g ∧ OwB g cap l W := by
  rcases own_form h with ⟨-, rfl⟩ | ⟨g, cap, cur, rfl, hb, hh, h1, h2, h3, h4⟩
  · simp at h0
  · exact ⟨g, cap, rfl, hb, ⟨cur, hh, h3, h4⟩, h1, h2⟩
theorem flat_encI : ∀ (l : List Int), l.flatMap encI = l.map (Value.int .i64)
  | [] => rfl
  | x :: l => by rw [List.flatMap_cons, flat_encI l]; rfl
theorem OwB.set {g cap i : Nat} {l : List Int} {W : World} (h : OwB g cap l W) (y : Int) : OwB g cap (l.set i y) (W.setCell ⟨g, i, none⟩ (.int .i64 y)) := by
  obtain ⟨⟨cur, hB, hc, ht⟩, hle, hmx⟩ := h
  refine ⟨⟨_, hB.set_ i (.int .i64 y), by simp [hc], ?_⟩, by simpa using hle, hmx⟩
  rw [flat_encI] at ht ⊢
  rw [List.length_set, List.map_set, ← ht]
  simp [List.take_set]
theorem OwB.far {g cap b i : Nat} {l : List Int} {W : World} (h : OwB g cap l W) (hb : g ≠ b) (u : Value) : OwB g cap l (W.setCell ⟨b, i, none⟩ u) := by
  obtain ⟨⟨cur, hB, hc, ht⟩, hle, hmx⟩ := h
  exact ⟨⟨cur, hB.far (by simpa using hb) u, hc, ht⟩, hle, hmx⟩
theorem OwB.ext {g cap : Nat} {l : List Int} {W W' : World} (h : OwB g cap l W) (e : Ext W W') : OwB g cap l W' := by
  obtain ⟨⟨cur, hB, hc, ht⟩, hle, hmx⟩ := h
  exact ⟨⟨cur, hB.ext e, hc, ht⟩, hle, hmx⟩
theorem OwB.sl {g cap : Nat} {l : List Int} {W : World} (h : OwB g cap l W) : SlI W (.slice (some ⟨g, 0, none⟩) l.length cap) l := by
  obtain ⟨⟨cur, hB, hc, ht⟩, hle, hmx⟩ := h
  refine ⟨_, cap, rfl, hle, hmx, fun _ => ⟨g, 0, rfl, hB.lt, fun k x hk j u hu => ?_⟩⟩
  match j, hu with
  | 0, hu =>
    simp at hu
    subst hu
    have h1 := hB.cell k
    have h2 : (l.flatMap encI)[k]? = some (.int .i64 x) := by rw [flat_encI, List.getElem?_map, hk]; rfl
    have hkl := (List.getElem?_eq_some_iff.1 hk).1
    rw [← ht, List.getElem?_take, if_pos hkl] at h2
    simp only [Nat.zero_add, Nat.mul_one, Nat.add_zero]
    rw [h1]
    simpa using h2
  | j + 1, hu => simp at hu
theorem OwB.cell {g cap k : Nat} {l : List Int} {W : World} {x : Int} (h : OwB g cap l W) (hk : l[k]? = some x) : W.cell? ⟨g, k, none⟩ = some (.int .i64 x) ∧ W.frozen? ⟨g, k, none⟩ = false ∧ g < W.heap.size := by
  obtain ⟨⟨cur, hB, hc, ht⟩, hle, hmx⟩ := h
  refine ⟨?_, hB.frozen k, hB.lt⟩
  have h2 : (l.flatMap encI)[k]? = some (.int .i64 x) := by rw [flat_encI, List.getElem?_map, hk]; rfl
  have hkl := (List.getElem?_eq_some_iff.1 hk).1
  rw [← ht, List.getElem?_take, if_pos hkl] at h2
  rw [hB.cell k]
  simpa using h2
theorem OwB.make {n : Nat} (hn : n ≤ maxLen) (W : World) : OwB W.heap.size n (List.replicate n 0) (W.alloc (.cells (Array.replicate n (Value.int .i64 0)) 3)) := by
  refine ⟨⟨_, Blk.new _ _ _, by simp, ?_⟩, by simp, hn⟩
  rw [flat_encI]
  simp
end Go.Proofs.YtkpengeaolcjhaaGreatDoor
/- The exchanges that the two loops have yielded: plain. -/
namespace Go.Proofs.YtkpengeaolcjhaaGreatDoor
open Go.RowKit Go.Shelf
set_option linter.unusedSimpArgs false

def exCell (m : Mll) (p : List Int) (i k : Nat) : List Exg := if mayX m p i k && lessU (unev m (swapP p i k)) (unev m p) then [(i, k, unev m (swapP p i k))] else []
def exRow (m : Mll) (p : List Int) (i k : Nat) : List Exg := (List.range k).flatMap (exCell m p i)
/-- What is yielded ahead of the bale k of the round i. -/
def exTo (m : Mll) (p : List Int) (i k : Nat) : List Exg := ((List.range i).flatMap fun j => exRow m p j p.length) ++ exRow m p i k
theorem exTo_zero (m : Mll) (p : List Int) : exTo m p 0 0 = [] := rfl
theorem exTo_cell (m : Mll) (p : List Int) (i k : Nat) : exTo m p i (k + 1) = exTo m p i k ++ exCell m p i k := by
  unfold exTo exRow
  rw [List.range_succ, List.flatMap_append, ← List.append_assoc]
  simp
theorem exTo_row (m : Mll) (p : List Int) (i : Nat) : exTo m p (i + 1) 0 = exTo m p i p.length := by
  unfold exTo
  rw [List.range_succ, List.flatMap_append]
  simp [exRow]
theorem exL_to (m : Mll) (p : List Int) : exL m p = exTo m p p.length 0 := by
  unfold exL exAll exTo exRow
  rw [List.filter_flatMap]
  simp only [List.range_zero, List.flatMap_nil, List.append_nil]
  refine congrArg (fun f => List.flatMap f _) (funext fun i => ?_)
  rw [List.filter_flatMap]
  refine congrArg (fun f => List.flatMap f _) (funext fun k => ?_)
  unfold exCell
  cases mayX m p i k
  · simp
  · simp only [if_true, Bool.true_and, List.filter_cons, List.filter_nil]
theorem range_pre {α : Type} (f : Nat → List α) {a b : Nat} (h : a ≤ b) : (List.range a).flatMap f <+: (List.range b).flatMap f := by
  induction b with
  | zero => obtain rfl : a = 0 := by omega
            exact List.prefix_refl _
  | succ b ih =>
    by_cases hk : a = b + 1
    · rw [hk]; exact List.prefix_refl _
    · exact (ih (by omega)).trans (by rw [List.range_succ, List.flatMap_append]; exact List.prefix_append _ _)
theorem exTo_pre {m : Mll} {p : List Int} {i k : Nat} (hi : i < p.length) (hk : k ≤ p.length) : exTo m p i k <+: exL m p := by
  have h1 : exTo m p i k <+: exTo m p (i + 1) 0 := by
    rw [exTo_row]
    unfold exTo
    exact (List.prefix_append_right_inj _).2 (range_pre _ hk)
  refine h1.trans ?_
  rw [exL_to]
  unfold exTo exRow
  simp only [List.range_zero, List.flatMap_nil, List.append_nil]
  exact range_pre _ (by omega)
end Go.Proofs.YtkpengeaolcjhaaGreatDoor
/- mill's exchanges: what the sequence yields. -/
namespace Go.Proofs.YtkpengeaolcjhaaGreatDoor
open Go.RowKit Go.Shelf Go.Lib
set_option maxRecDepth 100000
set_option linter.unusedSimpArgs false

set_option maxHeartbeats 8000000 in
theorem exchanges1_seqs {lt n c n2 c2 m nn bp bt bu : Nat} {size : Int} {l : List Rc} {p : List Int} {A A2 : Option Addr} {X : Nat → Prop} {w : World} (hm : Mok (mOf lt size l)) (ho : okPlan (mOf lt size l) p = true) (hs : SlC w (.slice A n c) l) (hp : SlI w (.slice A2 n2 c2) p)
    (hB1 : Blk w bp 36 #[.slice A2 n2 c2]) (hB2 : Blk w bt 95 #[.int .i64 (lt : Int), .int .i64 size, .slice A n c, .map (some m)]) (hB3 : Blk w bu 106 #[.int .i64 (unev (mOf lt size l) p).1, .int .i64 (unev (mOf lt size l) p).2]) (hmp : MapB w m nn (fitTo l l.length)) :
    Seqs Tryz.prog 109 #[.pointer (some ⟨bp, 0, none⟩), .pointer (some ⟨bt, 0, none⟩), .pointer (some ⟨bu, 0, none⟩)] w.heap.size X (fun (x : Exg) v _ => v = valX x) (exL (mOf lt size l) p) w := by
  intro l' J Jx W0 hE hJ hJx hY h0
  obtain ⟨A', n', cp', e1, hn, hlc, hcm⟩ := hp.form
  injection e1 with e1 e2 e3
  subst e1 e2 e3
  have HM := Lib.hid hm; have HO := Lib.hid ho; have HS := Lib.hid hs; have HP := Lib.hid hp; have HB1 := Lib.hid hB1; have HB2 := Lib.hid hB2; have HB3 := Lib.hid hB3; have HMP := Lib.hid hmp
  have HY := Lib.hid hY; have HJ := Lib.hid hJ; have HJX := Lib.hid hJx; have H0 := Lib.hid h0; have E0 := Lib.hid hE
  have HL2 := Lib.hid (show p.length = n2 from hn.out.symm)
  have HPO := Lib.hid (plan_of_ok hm ho)
  have HPL := Lib.hid (show p.length = l.length from (pok_of hm (plan_of_ok hm ho)).len)
  have hz0 := hE.size
  have hn7 : n2 ≤ 7 := by have h1 := (plans_mem hm (plan_of_ok hm ho)).1; have h2 := hm.n7; have := hn.out; omega
  obtain ⟨b0, bf, bl⟩ := (hB1.ext hE).c1
  clear hm ho hs hp hB1 hB2 hB3 hmp hY hJ hJx h0 hE hn
  go_enter Tryz.func109, Tryz.ntmps109
  go_wp2
  clear b0 bf bl
  refine wp_loop_ghost_k (fun g A' W => ∃ (i : Nat), i ≤ n2 ∧ n2 - i ≤ g ∧ Fr 65 [(0, .func (.yield l') #[] #[]), (1, .pointer (some ⟨bp, 0, none⟩)), (2, .pointer (some ⟨bt, 0, none⟩)), (3, .pointer (some ⟨bu, 0, none⟩)), (11, .slice A2 n2 c2), (12, .int .i64 (n2 : Int)), (13, .int .i64 (i : Int))] [] A' ∧
    Keep w.heap.size X W0 W ∧ J (exTo (mOf lt size l) p i 0) W) n2 ?_ ?_
  · exact ⟨0, by omega, by omega, ⟨rfl, rfl, by simp [Act.eval]⟩, Keep.refl _, by simpa [exTo_zero] using H0.out⟩
  · rintro g A' U ⟨i, hi, hg, hF, hK, hJK⟩ J2 K' hJ2 hK'
    have HJ2 := Lib.hid hJ2; have HK := Lib.hid hK; have HJK := Lib.hid hJK
    have EU := Lib.hid (show Ext w U from Below.trans E0.out hK.b)
    have hzU := EU.out.size
    obtain ⟨ρ, rfl, hρ⟩ := hF.open_
    simp only [List.forall_mem_cons] at hρ
    obtain ⟨r0, r1, r2, r3, r11, r12, r13, -⟩ := hρ
    simp only [lst, Nat.reduceAdd, r0, r1, r2, r3, r11, r12, r13]
    clear r0 r1 r2 r3 r11 r12 r13 hF hK hJK hJ2
    by_cases hlt : i < n2
    · have hltz : (i : Int) < (n2 : Int) := by omega
      obtain ⟨b9, off9, x, rfl, hx, -, hcell⟩ := (HP.out.ext EU.out).at_ hlt
      have c9 := SlI.cell hcell (Ext.refl _)
      obtain ⟨b0, bf, bl⟩ := (HB1.out.ext EU.out).c1
      have HX := Lib.hid hx
      clear hx hcell
      go_wp2
      clear b0 bf bl c9
      refine wp_loop_ghost_k (fun g A' V => ∃ (k : Nat), k ≤ n2 ∧ n2 - k ≤ g ∧ Fr 65 [(0, .func (.yield l') #[] #[]), (1, .pointer (some ⟨bp, 0, none⟩)), (2, .pointer (some ⟨bt, 0, none⟩)), (3, .pointer (some ⟨bu, 0, none⟩)), (5, .int .i64 (i : Int)), (6, .int .i64 x), (11, .slice (some ⟨b9, off9, none⟩) n2 c2), (12, .int .i64 (n2 : Int)), (13, .int .i64 (i : Int)), (18, .slice (some ⟨b9, off9, none⟩) n2 c2), (19, .int .i64 (n2 : Int)), (20, .int .i64 (k : Int))] [] A' ∧
        Keep w.heap.size X W0 V ∧ J (exTo (mOf lt size l) p i k) V) n2 ?_ ?_
      · exact ⟨0, by omega, by omega, ⟨rfl, rfl, by simp [Act.eval]⟩, HK.out, HJK.out⟩
      · rintro g2 A3 V ⟨k, hk, hg2, hF, hK, hJK⟩ J3 K3 hJ3 hK3
        have HJ3 := Lib.hid hJ3; have HKV := Lib.hid hK; have HJV := Lib.hid hJK
        have EV := Lib.hid (show Ext w V from Below.trans E0.out hK.b)
        have hzV := EV.out.size
        obtain ⟨ρ, rfl, hρ⟩ := hF.open_
        simp only [List.forall_mem_cons] at hρ
        obtain ⟨r0, r1, r2, r3, r5, r6, r11, r12, r13, r18, r19, r20, -⟩ := hρ
        simp only [lst, Nat.reduceAdd, r0, r1, r2, r3, r5, r6, r11, r12, r13, r18, r19, r20]
        clear r0 r1 r2 r3 r5 r6 r11 r12 r13 r18 r19 r20 hF hK hJK hJ3 HK HJK
        by_cases hlk : k < n2
        · have hlkz : (k : Int) < (n2 : Int) := by omega
          obtain ⟨b8, off8, y, e8, hy, -, hcelly⟩ := (HP.out.ext EV.out).at_ hlk
          injection e8 with e8
          injection e8 with e81 e82
          subst e81 e82
          have c8 := SlI.cell hcelly (Ext.refl _)
          have HYY := Lib.hid hy
          have HC1 := Lib.hid (exTo_cell (mOf lt size l) p i k)
          obtain ⟨bv, hbv⟩ : ∃ bv, fitTo l l.length (k : Int) = bv := ⟨_, rfl⟩
          have HMY := Lib.hid (show mayX (mOf lt size l) p i k = (!(decide (x = 0) || !decide (y = 0)) && bv) by
            obtain ⟨r, hr⟩ : ∃ r, l[k]? = some r := ⟨_, List.getElem?_eq_getElem (by have := HPL.out; have := HL2.out; omega)⟩
            unfold mayX
            rw [HX.out, hy, ← hbv, fitTo_at hr]
            simp [fitL, mOf, hr])
          have HLK := Lib.hid (show (Instr.lookup 93 (.map (some m)) (.int .i64 (k : Int)) false).run Tryz.prog V = .ok (.bool bv) V by
            have := (HMP.out.ext EV.out).look (k := (k : Int)) (by unfold In64; omega)
            rwa [hbv] at this)
          have lk := HLK.out
          obtain ⟨d0, d1, d2, d3, df, dl⟩ := (HB2.out.ext EV.out).c4
          clear hy hcelly hbv
          by_cases hx0 : x = 0
          · have HNO := Lib.hid (show exCell (mOf lt size l) p i k = [] by unfold exCell; rw [HMY.out]; simp [hx0])
            go_wp2
            exact Handed.intro (n2 - (k + 1)) (by omega) (HJ3.out _ _ _ ⟨k + 1, by omega, Nat.le_refl _, ⟨rfl, rfl, by simp [Act.eval, hx0]⟩, HKV.out, by rw [HC1.out, HNO.out, List.append_nil]; exact HJV.out⟩)
          · by_cases hy0 : y = 0
            · cases bv with
              | false =>
                have HNO := Lib.hid (show exCell (mOf lt size l) p i k = [] by unfold exCell; rw [HMY.out]; simp)
                go_wp2
                exact Handed.intro (n2 - (k + 1)) (by omega) (HJ3.out _ _ _ ⟨k + 1, by omega, Nat.le_refl _, ⟨rfl, rfl, by simp [Act.eval]⟩, HKV.out, by rw [HC1.out, HNO.out, List.append_nil]; exact HJV.out⟩)
              | true =>
                obtain ⟨b0, bf, bl⟩ := (HB1.out.ext EV.out).c1
                have HYES := Lib.hid (show mayX (mOf lt size l) p i k = true by rw [HMY.out]; simp [hx0, hy0])
                have HX0 := Lib.hid hx0; have HY0 := Lib.hid hy0
                go_wp2_with fail
                refine (cloneI_any _ _ V (HP.out.ext EV.out) (by have := HL2.out; omega)).mono ?_
                rintro e V1 ⟨v', rfl, hN, hE⟩
                obtain ⟨go', cap, rfl, hg', hO⟩ := OwB.of hN.1 (by have := HL2.out; omega)
                have HE1 := Lib.hid hE; have HO1 := Lib.hid hO; have HG1 := Lib.hid hg'
                clear hN hE hO b0 bf bl c8 lk
                obtain ⟨z0, z1, z2⟩ := HO1.out.cell HX.out
                obtain ⟨z3, z4, z5⟩ := HO1.out.cell HYY.out
                have hik : i ≠ k := by
                  rintro rfl
                  have h := HX.out
                  rw [HYY.out] at h
                  injection h with h
                  exact HX0.out (by rw [← h]; exact HY0.out)
                obtain ⟨s0, s1, s2⟩ := (HO1.out.set 0 (i := i)).cell (show (p.set i 0)[k]? = some y by rw [List.getElem?_set_ne hik]; exact HYY.out)
                rw [HL2.out]
                go_upto_region 9 with (fail)
                clear s0 s1 s2
                clear z0 z1 z2 z3 z4 z5
                have hlc := (HB2.out.ext EV.out).lt
                have hu3 := (HB3.out.ext EV.out).lt
                obtain ⟨w2, hw2⟩ : ∃ w2, w2 = (V1.setCell ⟨go', i, none⟩ (.int .i64 0)).setCell ⟨go', k, none⟩ (.int .i64 x) := ⟨_, rfl⟩
                rw [← hw2]
                have HO2 := Lib.hid (show OwB go' cap (swapP p i k) w2 by
                  rw [hw2]; unfold swapP; rw [HX.out]; exact (HO1.out.set 0).set x)
                have HE2 := Lib.hid (show Ext V w2 from hw2 ▸ (HE1.out.setCell (by dsimp only; exact HG1.out) _).setCell (by dsimp only; exact HG1.out) _)
                clear hw2
                have HSW := Lib.hid (show SlI w2 (.slice (some ⟨go', 0, none⟩) n2 cap) (swapP p i k) by
                  have h := HO2.out.sl
                  rwa [show (swapP p i k).length = n2 by unfold swapP; simp [HL2.out]] at h)
                have HOK := Lib.hid (swap_ok HO.out HX.out HX0.out (by rw [HYY.out, HY0.out]) (show (fitL (mOf lt size l))[k]? = some true by
                  have h := HYES.out
                  unfold mayX at h
                  simp only [Bool.and_eq_true] at h
                  have h2 := h.2
                  cases hf : (fitL (mOf (lt : Int) size l))[k]? with
                  | none => rw [hf] at h2; cases h2
                  | some b => rw [hf] at h2; rw [show b = true from h2]))
                obtain ⟨d0, d1, d2, d3, df, dl⟩ := (HB2.out.ext (EV.out.trans HE2.out)).c4
                go_wp2_with fail
                refine (of_any lt size l (swapP p i k) _ _ (some m) _ HM.out (HS.out.ext (EV.out.trans HE2.out)) HSW.out (pok_of HM.out (plan_of_ok HM.out HOK.out))).mono ?_
                rintro e w3 ⟨rfl, hE3⟩
                obtain ⟨u, hu⟩ : ∃ u, unev (mOf lt size l) (swapP p i k) = u := ⟨_, rfl⟩
                have HU := Lib.hid hu
                rw [hu]
                have HE3 := Lib.hid (HE2.out.trans hE3)
                clear hE3 hu d0 d1 d2 d3 df dl
                obtain ⟨u0, hu0⟩ : ∃ u0, unev (mOf lt size l) p = u0 := ⟨_, rfl⟩
                have HU0 := Lib.hid hu0
                have HB3' := Lib.hid (hu0 ▸ HB3.out)
                clear hu0
                go_upto_region 10 with (fail)
                obtain ⟨w4, hw4⟩ : ∃ w4, w4 = w3.alloc (.cells #[.int .i64 u.1, .int .i64 u.2] 106) := ⟨_, rfl⟩
                rw [← hw4]
                have HE4 := Lib.hid (show Ext V w4 from hw4 ▸ HE3.out.alloc _)
                have HB4 := Lib.hid (show Blk w4 w3.heap.size 106 #[.int .i64 u.1, .int .i64 u.2] from hw4 ▸ Blk.new _ _ _)
                clear hw4
                obtain ⟨y0, y1, yf, yl⟩ := HB4.out.c2
                obtain ⟨a0, a1, af, al⟩ := (HB3'.out.ext (EV.out.trans HE4.out)).c2
                refine (wpIn_wide (n := 1)).1 ?_
                gi_wp2_with fail
                refine ⟨trivial, ?_⟩
                refine (callsIn_wide.2 (order_any u u0 w4)).mono ?_
                rintro e w5 ⟨rfl, hE5⟩
                have HE5 := Lib.hid (HE4.out.trans hE5)
                have HB5 := Lib.hid (HB4.out.ext hE5)
                clear hE5 y0 y1 yf yl a0 a1 af al
                have HLS := Lib.hid (ordU_neg u u0)
                have KE := Lib.hid (HKV.out.trans (Keep.ext HE5.out hzV)); have JE := Lib.hid (HJ.out _ _ _ HJV.out HE5.out)
                by_cases hls : ordU u u0 < 0
                · have HC2 := Lib.hid (show exCell (mOf lt size l) p i k = [(i, k, u)] by
                    unfold exCell
                    rw [HYES.out, HU.out, HU0.out, ← HLS.out]
                    simp [hls])
                  have HS1 := Lib.hid (show exTo (mOf lt size l) p i k ++ [(i, k, u)] <+: exL (mOf lt size l) p by
                    rw [← HC2.out, ← HC1.out]
                    exact exTo_pre (by have := HL2.out; omega) (by have := HL2.out; omega))
                  obtain ⟨y0, y1, yf, yl⟩ := HB5.out.c2
                  obtain ⟨fn, tmps, assign, body, hy, hR⟩ := HY.out 0 _ (i, k, u) _ _ JE.out rfl HS1.out
                  gi_wp2_with ((try refine ⟨wide_depth _, ?_⟩); refine hR.mono ?_; clear hR; rintro e W3 (⟨rfl, hJ3, hk3⟩ | ⟨rfl, hx⟩))
                  · have KW3 := Lib.hid (KE.out.trans hk3); have JW3 := Lib.hid hJ3
                    clear hJ3 hk3
                    go_wp2
                    exact Handed.intro (n2 - (k + 1)) (by omega) (HJ3.out _ _ _ ⟨k + 1, by omega, Nat.le_refl _, ⟨rfl, rfl, by simp [Act.eval]⟩, KW3.out, by rw [HC1.out, HC2.out]; exact JW3.out⟩)
                  · go_wp2
                    refine bodyPost_ret (results_none rfl _ _ _) rfl ?_
                    exact ⟨⟨_, rfl⟩, .inr ⟨_, HS1.out, hx⟩⟩
                · have HNO := Lib.hid (show exCell (mOf lt size l) p i k = [] by
                    unfold exCell
                    rw [HYES.out, HU.out, HU0.out, ← HLS.out]
                    simp [hls])
                  gi_wp2
                  refine ⟨fun _ h => (by cases h), ?_⟩
                  gi_wp2
                  go_wp2
                  exact Handed.intro (n2 - (k + 1)) (by omega) (HJ3.out _ _ _ ⟨k + 1, by omega, Nat.le_refl _, ⟨rfl, rfl, by simp [Act.eval]⟩, KE.out, by rw [HC1.out, HNO.out, List.append_nil]; exact JE.out⟩)
            · have HNO := Lib.hid (show exCell (mOf lt size l) p i k = [] by unfold exCell; rw [HMY.out]; simp [hy0])
              go_wp2
              exact Handed.intro (n2 - (k + 1)) (by omega) (HJ3.out _ _ _ ⟨k + 1, by omega, Nat.le_refl _, ⟨rfl, rfl, by simp [Act.eval]⟩, HKV.out, by rw [HC1.out, HNO.out, List.append_nil]; exact HJV.out⟩)
        · have HE := Lib.hid (show k = n2 by omega)
          have HRW := Lib.hid (exTo_row (mOf lt size l) p i)
          go_wp2
          exact Handed.intro (n2 - (i + 1)) (by omega) (HJ2.out _ _ _ ⟨i + 1, by omega, Nat.le_refl _, ⟨rfl, rfl, by simp [Act.eval]⟩, HKV.out, by rw [HRW.out, HL2.out]; have := HJV.out; rwa [HE.out] at this⟩)
    · have HE := Lib.hid (show i = n2 by omega)
      have HEX := Lib.hid (exL_to (mOf lt size l) p)
      go_wp2
      go_end0
      exact ⟨⟨_, rfl⟩, .inl (by rw [HEX.out, HL2.out]; have := HJK.out; rwa [HE.out] at this)⟩
end Go.Proofs.YtkpengeaolcjhaaGreatDoor
