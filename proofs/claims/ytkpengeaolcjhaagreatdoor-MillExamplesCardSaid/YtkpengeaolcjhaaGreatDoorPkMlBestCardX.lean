/- mill.Run. -/
import Derived.Test.YtkpengeaolcjhaaGreatDoorPkMlBestCardW
import Derived.Test.YtkpengeaolcjhaaGreatDoorPkMlBestCardT
import Derived.Test.YtkpengeaolcjhaaGreatDoorPkMlBestCardU
import Derived.Test.YtkpengeaolcjhaaGreatDoorPkMlBestCardO
import Derived.Test.YtkpengeaolcjhaaGreatDoorPkMlBestCardV
import Derived.Test.YtkpengeaolcjhaaGreatDoorPkMlBestCardP
namespace Go.Proofs.YtkpengeaolcjhaaGreatDoor
open Go.RowKit Go.Shelf Go.Lib
set_option maxRecDepth 100000
set_option linter.unusedSimpArgs false

/-- The sums while the list of a lot is added up. -/
def sumsQ (lt : Nat) (p v : List Int) (k j : Nat) : List Int := (List.range lt).map fun (i : Nat) => if i < k then sumAt p v ((i : Int) + 1) else if i = k then ((lotL p v ((i : Int) + 1)).take j).sum else 0
theorem sumsQ_len (lt : Nat) (p v : List Int) (k j : Nat) : (sumsQ lt p v k j).length = lt := by unfold sumsQ; simp
theorem sumsQ_get {lt : Nat} {p v : List Int} {k j i : Nat} (hi : i < lt) : (sumsQ lt p v k j)[i]? = some (if i < k then sumAt p v ((i : Int) + 1) else if i = k then ((lotL p v ((i : Int) + 1)).take j).sum else 0) := by
  unfold sumsQ
  rw [List.getElem?_map, List.getElem?_range hi]
  rfl
theorem sumsQ_at {lt : Nat} {p v : List Int} {k j : Nat} (hk : k < lt) : (sumsQ lt p v k j)[k]? = some ((lotL p v ((k : Int) + 1)).take j).sum := by
  rw [sumsQ_get hk, if_neg (by omega), if_pos rfl]
theorem sumsQ_zero (lt : Nat) (p v : List Int) : sumsQ lt p v 0 0 = List.replicate lt 0 := by
  apply List.ext_getElem?
  intro j
  by_cases hj : j < lt
  · rw [sumsQ_get hj, List.getElem?_replicate, if_pos hj, if_neg (by omega)]
    split <;> simp
  · rw [List.getElem?_eq_none (by rw [sumsQ_len]; omega), List.getElem?_eq_none (by simp; omega)]
theorem sumsQ_succ {lt : Nat} {p v : List Int} {k j : Nat} {x : Int} (hx : (lotL p v ((k : Int) + 1))[j]? = some x) : sumsQ lt p v k (j + 1) = (sumsQ lt p v k j).set k (((lotL p v ((k : Int) + 1)).take j).sum + x) := by
  apply List.ext_getElem?
  intro i
  rw [List.getElem?_set]
  by_cases hi : i < lt
  · rw [sumsQ_get hi, sumsQ_get hi]
    by_cases e : k = i
    · subst e
      rw [if_pos rfl, if_neg (by omega), if_pos rfl, if_pos (by rw [sumsQ_len]; exact hi), List.take_add_one, hx, List.sum_append]
      simp
    · rw [if_neg e]
      split
      · rfl
      · rw [if_neg (by omega), if_neg (by omega)]
  · rw [List.getElem?_eq_none (by rw [sumsQ_len]; omega), List.getElem?_eq_none (by rw [sumsQ_len]; omega)]
    split
    · rw [if_neg (by rw [sumsQ_len]; omega)]
    · rfl
theorem sumsQ_row {lt : Nat} {p v : List Int} {k j : Nat} (hj : (lotL p v ((k : Int) + 1)).length ≤ j) : sumsQ lt p v (k + 1) 0 = sumsQ lt p v k j := by
  unfold sumsQ
  refine List.map_congr_left fun i _ => ?_
  by_cases h1 : i < k
  · rw [if_pos (by omega), if_pos h1]
  · by_cases h2 : i = k
    · subst h2
      rw [if_pos (by omega), if_neg h1, if_pos rfl, List.take_of_length_le hj]
      rfl
    · rw [if_neg (by omega), if_neg h1, if_neg h2]
      split <;> simp
theorem sumsQ_full (lt : Nat) (p v : List Int) : sumsQ lt p v lt 0 = sumsP lt (sumAt p v) := by
  unfold sumsQ sumsP
  refine List.map_congr_left fun i hi => ?_
  rw [if_pos (List.mem_range.1 hi)]
/-- The order in which lots run best, and its greatest step. -/
def runL (m : Mll) (p : List Int) : List Int := if judgeE m p = 0 then (firstM (lessO (ordS (sumAt p (lensL m)))) (runsL m.lots.toNat)).getD [] else []
def runT (m : Mll) (p : List Int) : Int := if judgeE m p = 0 then stepL (sumAt p (lensL m)) (runL m p) else 0
theorem run_no {m : Mll} {p : List Int} (h : judgeE m p ≠ 0) : runL m p = [] ∧ runT m p = 0 := ⟨if_neg h, if_neg h⟩
theorem runL_mem (f : Int → Int) (n : Nat) : ((firstM (lessO (ordS f)) (runsL n)).getD []).length ≤ n ∧ ∀ y ∈ (firstM (lessO (ordS f)) (runsL n)).getD [], 1 ≤ y ∧ y ≤ (n : Int) := by
  cases hx : firstM (lessO (ordS f)) (runsL n) with
  | none => simp
  | some x =>
    rcases firstM_mem _ (runsL n) none x hx with h | h
    · have := runsL_mem h
      exact ⟨by simp [this.1], this.2⟩
    · cases h
set_option maxHeartbeats 8000000 in
theorem runM_any (lots size : Int) (l : List Rc) (p : List Int) (sv pv : Value) (w : World) (hT : TabM w) (hs : MlC w sv l) (hp : SlI w pv p) (hlen : l.length ≤ 1000) :
    Calls Tryz.prog 38 #[valM lots size sv, pv] w fun e w' => (∃ v, e = .returned (.tuple #[v, .int .i64 (runT (mOf lots size l) p), .int .i64 (judgeE (mOf lots size l) p)]) ∧ SlI w' v (runL (mOf lots size l) p)) ∧ Ext w w' := by
  have HS := Lib.hid hs; have HT := Lib.hid hT; have HLN := Lib.hid hlen; have HP := Lib.hid hp
  obtain ⟨A, n, c, rfl, hn, hlc, hcm⟩ := hs.1.form
  obtain ⟨A2, n2, c2, rfl, hn2, hlc2, hcm2⟩ := hp.form
  have HNL := Lib.hid (show l.length = n from hn.out.symm)
  clear hs hT hn hn2 hp hlen
  go_enter Tryz.func38, Tryz.ntmps38
  go_wp2_with fail
  have E0 := Lib.hid (Ext.al w (.cells #[.int .i64 lots, .int .i64 size, .slice A n c] 24))
  have B0 := Lib.hid (Blk.new w 24 #[.int .i64 lots, .int .i64 size, .slice A n c])
  refine (judged_any lots size l p _ _ _ (HT.out.ext E0.out) (HS.out.ext E0.out) (HP.out.ext E0.out) HLN.out).mono ?_
  rintro e w1 ⟨⟨tv, rfl, hJ⟩, hE⟩
  have E1 := Lib.hid (E0.out.trans hE)
  have B1 := Lib.hid (B0.out.ext hE)
  clear hE E0 B0
  rcases hJ with ⟨h0, m, nn, rfl, hmp⟩ | ⟨h0, rfl⟩
  · have H0 := Lib.hid h0
    obtain ⟨hc, hok⟩ := judgeE_zero h0
    have hm := mok_of hc
    obtain ⟨lt, rfl⟩ := lots_nat hc
    have HM := Lib.hid hm
    have HPO := Lib.hid (pok_of hm (plan_of_ok hm hok))
    have hl3 : lt ≤ 3 := by have h : (lt : Int) ≤ 3 := hm.l3; omega
    have HN7 := Lib.hid (show l.length ≤ 7 by have h := hm.n7; simp at h; exact h)
    have HLB := Lib.hid (show ∀ x ∈ l.map (·.c.len), 0 ≤ x ∧ x ≤ 999 from fun x hx => by
      rw [List.mem_map] at hx
      obtain ⟨y, hy, rfl⟩ := hx
      have := hm.len y.c (List.mem_map_of_mem hy); omega)
    have rm := fun w => run_makeIM (n := lt) (by omega) w
    rw [h0]
    clear h0 hc hok hm hmp
    obtain ⟨b0, b1, b2, bf, bl⟩ := B1.out.c3
    go_upto_region 5 with (fail)
    obtain ⟨w3, hw3⟩ : ∃ w3, w3 = ((w1.alloc (.cells #[.int .i64 (lt : Int), .int .i64 size, .slice A n c, .map (some m)] 95)).alloc (.cells (Array.replicate lt (Value.int .i64 0)) 3)).alloc (.cells #[.slice (some ⟨w1.heap.size + 1, 0, none⟩) lt lt] 36) := ⟨_, rfl⟩
    rw [← hw3]
    have E3 := Lib.hid (show Ext w w3 from hw3 ▸ ((E1.out.alloc _).alloc _).alloc _)
    have B3 := Lib.hid (show Blk w3 w.heap.size 24 #[.int .i64 (lt : Int), .int .i64 size, .slice A n c] from hw3 ▸ ((B1.out.alloc _).alloc _).alloc _)
    have T3 := Lib.hid (show Blk w3 w1.heap.size 95 #[.int .i64 (lt : Int), .int .i64 size, .slice A n c, .map (some m)] from hw3 ▸ ((Blk.new _ _ _).alloc _).alloc _)
    have O3 := Lib.hid (show OwB (w1.heap.size + 1) lt (sumsQ lt p (l.map (·.c.len)) 0 0) w3 by
      rw [hw3, sumsQ_zero]
      have h := OwB.make (n := lt) (by unfold maxLen; omega) (w1.alloc (.cells #[.int .i64 (lt : Int), .int .i64 size, .slice A n c, .map (some m)] 95))
      rw [show (w1.alloc (.cells #[.int .i64 (lt : Int), .int .i64 size, .slice A n c, .map (some m)] 95)).heap.size = w1.heap.size + 1 by simp] at h
      exact h.ext (Ext.al _ _))
    have H3 := Lib.hid (show Blk w3 (w1.heap.size + 1 + 1) 36 #[.slice (some ⟨w1.heap.size + 1, 0, none⟩) lt lt] from hw3 ▸ Blk.at_ (by simp))
    have HZ3 := Lib.hid (show w3.heap.size = w1.heap.size + 3 by rw [hw3]; simp)
    have hzw := B1.out.lt
    have HZW := Lib.hid hzw
    clear hw3 b0 b1 b2 bf bl rm hzw
    generalize hgs : w1.heap.size + 1 = gs at *
    obtain ⟨t0, t1, t2, t3, tf, tl⟩ := T3.out.c4
    go_wp2_with fail
    refine (each_any lt size l p _ _ (some m) (fun r => r.c.len) 78 #[] (enters_of Tryz.func78 (by kernel_rfl) rfl) _ (fun W r _ _ => f78_any r W) (HS.out.1.ext E3.out) (HP.out.ext E3.out) HPO.out.len HPO.out.rng hl3 HLN.out).mono ?_
    rintro e w4 ⟨⟨go', vs, rfl, hgo, hll⟩, hE⟩
    have E4 := Lib.hid (E3.out.trans hE)
    have B4 := Lib.hid (B3.out.ext hE)
    have O4 := Lib.hid (O3.out.ext hE)
    have H4 := Lib.hid (H3.out.ext hE)
    have HLL := Lib.hid hll
    have HGO := Lib.hid hgo
    have HG4 := Lib.hid (Gap.refl gs (gs + 1) w4)
    have HGS := Lib.hid (show w.heap.size < gs ∧ gs + 2 ≤ w3.heap.size by have := HZ3.out; have := HZW.out; omega)
    clear hE hll hgo t0 t1 t2 t3 tf tl B3 O3 H3 T3
    have HLV := Lib.hid (show vs.length = lt by rw [HLL.out.len]; unfold lotsL; simp)
    go_wp2
    go_loopg [30] lt (fun gg s30 wr => ∃ k : Nat, k ≤ lt ∧ lt - k ≤ gg ∧ s30 = .int .i64 (k : Int) ∧ Aside (OwB gs lt (sumsQ lt p (l.map (·.c.len)) k 0) wr) ∧ Aside (Gap gs (gs + 1) w4 wr))
    case atStart => exact ⟨0, by omega, by omega, by simp, O4.out, HG4.out⟩
    case round =>
      obtain ⟨k, hk, hgg, rfl, OQ, GQ⟩ := hrel
      clear O4 HG4
      by_cases hkl : k < lt
      · have hkz : (k : Int) < (lt : Int) := by omega
        obtain ⟨vi, hvi⟩ : ∃ v, vs[k]? = some v := ⟨_, List.getElem?_eq_getElem (by rw [HLV.out]; exact hkl)⟩
        have hli : (lotsL (lt : Int) p (l.map (·.c.len)))[k]? = some (lotL p (l.map (·.c.len)) ((k : Int) + 1)) := by
          unfold lotsL
          rw [List.getElem?_map, List.getElem?_range (by omega)]
          rfl
        have HOW := Lib.hid (HLL.out.own k vi _ hvi hli)
        have hsl : SlI w4 vi (lotL p (l.map (·.c.len)) ((k : Int) + 1)) := HOW.out.1.sl (fun _ => rfl)
        have HRW := Lib.hid (sumsQ_row (lt := lt) (p := p) (v := l.map (·.c.len)) (k := k) (Nat.le_refl _))
        have HQS := Lib.hid (fun j x (h : (lotL p (l.map (·.c.len)) ((k : Int) + 1))[j]? = some x) => sumsQ_succ (lt := lt) h)
        have HQA := Lib.hid (fun j => sumsQ_at (p := p) (v := l.map (·.c.len)) (j := j) hkl)
        have HBD := Lib.hid (show (∀ x ∈ lotL p (l.map (·.c.len)) ((k : Int) + 1), 0 ≤ x ∧ x ≤ 999) ∧ (lotL p (l.map (·.c.len)) ((k : Int) + 1)).length ≤ 7 from ⟨fun x hx => HLB.out x (lotL_mem hx), by
          have h1 := List.length_filter_le (fun x : Int × Int => x.1 == (k : Int) + 1) (p.zip (l.map (·.c.len)))
          unfold lotL
          rw [List.length_map]
          rw [List.length_zip] at h1
          have := HPO.out.len; have := HN7.out
          omega⟩)
        have HC7 := Lib.hid (show ∀ W, Gap gs (gs + 1) w4 W → W.cell? ⟨go', k, none⟩ = some vi from fun W h => by
          have hb := h.blk HLL.out.row (.inr (by have := HGO.out; have := HGS.out.2; omega))
          rw [hb.cell k]
          simpa using hvi)
        generalize lotL p (l.map (·.c.len)) ((k : Int) + 1) = li at *
        obtain ⟨Ai, ni, ci, rfl, hni, -, -⟩ := hsl.form
        have HNI := Lib.hid (show li.length = ni from hni.out.symm)
        have hni7 : ni ≤ 7 := by have := HBD.out.2; have := HNI.out; omega
        have HSL := Lib.hid (show ∀ W, Gap gs (gs + 1) w4 W → SlI W (.slice Ai ni ci) li from fun W h => (h.own HOW.out.1 (by have := HGS.out.2; omega)).sl (fun _ => rfl))
        have c0 := HC7.out _ GQ.out
        clear hvi hli hsl hni
        go_wp2
        go_loopg [37] ni (fun gg s37 wr => ∃ j : Nat, j ≤ ni ∧ ni - j ≤ gg ∧ s37 = .int .i64 (j : Int) ∧ Aside (OwB gs lt (sumsQ lt p (l.map (·.c.len)) k j) wr) ∧ Aside (Gap gs (gs + 1) w4 wr))
        case atStart => exact ⟨0, by omega, by omega, by simp, OQ.out, GQ.out⟩
        case round =>
          obtain ⟨j, hj, hgi, rfl, OI, GI⟩ := hrel
          clear OQ GQ c0
          by_cases hjn : j < ni
          · have hjz : (j : Int) < (ni : Int) := by omega
            obtain ⟨bo, off, x, rfl, hx, -, hcell⟩ := (HSL.out _ GI.out).at_ hjn
            have c1 := SlI.cell hcell (Ext.refl _)
            have hq := HQA.out j
            have HNX := Lib.hid (HQS.out j x hx)
            have hxb := HBD.out.1 x (List.mem_of_getElem? hx)
            have hsb := sum_bd (l := li.take j) (fun y hy => HBD.out.1 y (List.mem_of_mem_take hy))
            have hl7 : (li.take j).length ≤ 7 := by rw [List.length_take]; have := HBD.out.2; omega
            generalize (li.take j).sum = z at *
            have hwz : IntKind.i64.wrap (z + x) = z + x := by rw [IntKind.wrap_i64]; omega
            obtain ⟨z0, z1, z2⟩ := OI.out.cell hq
            obtain ⟨h0, hf, hl⟩ := (GI.out.blk H4.out (.inr (by omega))).c1
            have HGI := Lib.hid (GI.out.setCell (p := ⟨gs, k, none⟩) (Nat.le_refl _) (Nat.lt_succ_self _) (.int .i64 (z + x)))
            have HOI := Lib.hid (OI.out.set (i := k) (z + x))
            clear hx hcell hxb hsb hl7 hq
            go_wp2
            go_roundg (ni - (j + 1))
            case measure => omega
            case rel => exact ⟨j + 1, by omega, by omega, by simp, by rw [HNX.out]; exact HOI.out, HGI.out⟩
          · have hje : j = ni := by omega
            subst hje
            rw [HNI.out] at HRW
            go_wp2
            go_roundg (lt - (k + 1))
            case measure => omega
            case rel => exact ⟨k + 1, by omega, by omega, by simp, by rw [HRW.out]; exact OI.out, GI.out⟩
      · have hke : k = lt := by omega
        subst hke
        have OF := Lib.hid (show OwB gs k (sumsP k (sumAt p (l.map (·.c.len)))) wr by rw [← sumsQ_full]; exact OQ.out)
        have EW := Lib.hid (GQ.out.ext (w := w) E4.out (by have := HGS.out.1; omega))
        have BW := Lib.hid (GQ.out.blk B4.out (.inl HGS.out.1))
        have HW := Lib.hid (GQ.out.blk H4.out (.inr (Nat.le_refl _)))
        have SW := Lib.hid (show SlI wr (.slice (some ⟨gs, 0, none⟩) k k) (sumsP k (sumAt p (l.map (·.c.len)))) by
          have h := OF.out.sl
          simpa using h)
        obtain ⟨f, hf⟩ : ∃ f, sumAt p (l.map (·.c.len)) = f := ⟨_, rfl⟩
        have HFB := Lib.hid (show ∀ x, 0 ≤ f x ∧ f x ≤ 9000 from fun x => by
          rw [← hf]
          have := sumAt_bd (p := p) (vals := l.map (·.c.len)) (lot := x) (by rw [HPO.out.len]; exact HN7.out) HLB.out
          omega)
        have HRL := Lib.hid (show runL (mOf k size l) p = (firstM (lessO (ordS f)) (runsL k)).getD [] ∧ runT (mOf k size l) p = stepL f ((firstM (lessO (ordS f)) (runsL k)).getD []) by
          have e : sumAt p (lensL (mOf (k : Int) size l)) = f := by rw [← hf]; unfold lensL; rw [List.map_map]; rfl
          have e2 : runL (mOf (k : Int) size l) p = (firstM (lessO (ordS f)) (runsL k)).getD [] := by unfold runL; rw [if_pos H0.out, e]; simp
          refine ⟨e2, ?_⟩
          unfold runT
          rw [if_pos H0.out, e, e2])
        rw [hf] at SW
        clear OQ GQ OF B4 H4 hf
        obtain ⟨b0, b1, b2, bf, bl⟩ := BW.out.c3
        go_upto_region 15 with (fail)
        obtain ⟨w5, hw5⟩ : ∃ w5, w5 = wr.alloc (.cells #[.func (.func 79) #[] #[.pointer (some ⟨gs + 1, 0, none⟩)]] 137) := ⟨_, rfl⟩
        rw [← hw5]
        have M5 := Lib.hid (show Ext wr w5 from hw5 ▸ Ext.al _ _)
        have T5 := Lib.hid (show Blk w5 wr.heap.size 137 #[.func (.func 79) #[] #[.pointer (some ⟨gs + 1, 0, none⟩)]] from hw5 ▸ Blk.new _ _ _)
        have E5 := Lib.hid (EW.out.trans M5.out)
        have H5 := Lib.hid (HW.out.ext M5.out)
        have S5 := Lib.hid (SW.out.ext M5.out)
        clear hw5 b0 b1 b2 bf bl
        obtain ⟨b0, b1, b2, bf, bl⟩ := (BW.out.ext M5.out).c3
        go_wp2_with fail
        refine (runs_any (k : Int) w5).mono ?_
        rintro e w6 ⟨rfl, hbn, hE⟩
        have E6 := Lib.hid (E5.out.trans hE)
        have H6 := Lib.hid (H5.out.ext hE)
        have S6 := Lib.hid (S5.out.ext hE)
        have T6 := Lib.hid (T5.out.ext hE)
        have HBN := Lib.hid hbn
        have hbl := hbn.lt
        clear hE hbn b0 b1 b2 bf bl H5 S5 T5
        go_wp2_with fail
        have hfi := firstM_any (gf := 112) (tf := 82) (lb := #[.pointer (some ⟨w5.heap.size, 0, none⟩)]) (fi := #[]) (tlb := #[.pointer (some ⟨wr.heap.size, 0, none⟩)]) (enters_of Tryz.func112 (by kernel_rfl) rfl) (enters_of Tryz.func82 (by kernel_rfl) rfl)
          (xs := runsL k) (ord := ordS f) (w := w6) (fun w0 hE0 hz0 => runs_seqs hl3 (fun b hb => by omega) (fun h => by omega) (by have := hE0.size; omega) (HBN.out.ext hE0))
          (fun x hx y hy v v' W hW hvx hvy => by
            have hx1 := runsL_mem hx
            have hy1 := runsL_mem hy
            have h1 := f82_any (bt := wr.heap.size) x y v v' W hl3 HFB.out (H6.out.ext hW) (S6.out.ext hW) hvx hvy (by omega) (by omega) hx1.2 hy1.2 (T6.out.ext hW).c1.1
            simpa using h1)
        have HFI := Lib.hid hfi
        have HRM := Lib.hid (runL_mem f k)
        clear hfi hbl
        obtain ⟨bst, hbst⟩ : ∃ b, (firstM (lessO (ordS f)) (runsL k)).getD [] = b := ⟨_, rfl⟩
        rw [hbst] at HFI HRM HRL
        clear hbst
        refine HFI.out.mono ?_
        rintro e w7 ⟨v, rfl, hv, hE⟩
        have HV := Lib.hid hv
        have E7 := Lib.hid (E6.out.trans hE)
        have H7 := Lib.hid (H6.out.ext hE)
        have S7 := Lib.hid (S6.out.ext hE)
        obtain ⟨t0, tf, tl⟩ := (T6.out.ext hE).c1
        obtain ⟨Av, nv, cv, rfl, -, -, -⟩ := HV.out.form
        clear hv hE
        go_wp2_with fail
        refine (steps_any bst _ w7 hl3 HFB.out H7.out S7.out HV.out (by have := HRM.out.1; omega) HRM.out.2).mono ?_
        rintro e w8 ⟨rfl, hE⟩
        have HV8 := Lib.hid (HV.out.ext hE)
        have E8 := Lib.hid (E7.out.trans hE)
        clear hE t0 tf tl
        go_wp2
        refine bodyPost_ret (v := .tuple #[.slice Av nv cv, .int .i64 (stepL f bst), .int .i64 0]) (by simp [results, Tryz.results38, go_sem]) rfl ?_
        exact ⟨⟨_, by rw [HRL.out.2, H0.out], by rw [HRL.out.1]; exact HV8.out⟩, E8.out⟩
  · have H0 := Lib.hid h0
    obtain ⟨er, HER⟩ : ∃ er, Hid (judgeE (mOf lots size l) p = er) := ⟨_, Lib.hid rfl⟩
    have HN := Lib.hid (run_no h0)
    rw [HER.out] at h0 ⊢
    go_wp2
    refine bodyPost_ret (v := .tuple #[.slice none 0 0, .int .i64 0, .int .i64 er]) (by simp [results, Tryz.results38, go_sem]) rfl ?_
    exact ⟨⟨_, by rw [HN.out.2, HER.out], by rw [HN.out.1]; exact Sl.nil _⟩, E1.out.alloc _⟩
end Go.Proofs.YtkpengeaolcjhaaGreatDoor
/- mill.Helps. -/
namespace Go.Proofs.YtkpengeaolcjhaaGreatDoor
open Go.RowKit Go.Shelf Go.Lib
set_option maxRecDepth 100000
set_option linter.unusedSimpArgs false

def helpsM (m : Mll) (x : Cot) : Int × Int × Int := if putME m x = 0 then ((evenU (putM m x)).1, (evenU (putM m x)).2, bestE (putM m x)) else (0, 0, putME m x)
theorem sortK_len (l : List Cot) : ∀ k, (sortK l k).length ≤ k
  | 0 => by simp [sortK]
  | k + 1 => by
    unfold sortK
    have h := sortK_len l k
    split
    · unfold putK
      simp
      omega
    · omega
set_option maxHeartbeats 4000000 in
theorem helpsM_any (lots size : Int) (l : List Rc) (x : Rc) (sv : Value) (w : World) (hT : TabM w) (hs : MlC w sv l) (hd : SlD w (.slice x.da x.dn x.dc) x.c.b.draws) (hw : SlW w (.slice x.wa x.wn x.wc) x.c.b.weighs) (hlen : l.length ≤ 900) (hxl : x.c.b.draws.length ≤ 1000 ∧ x.c.b.weighs.length ≤ 1000) :
    Calls Tryz.prog 34 #[valM lots size sv, valC x] w fun e w' => e = .returned (.tuple #[.int .i64 (helpsM (mOf lots size l) x.c).1, .int .i64 (helpsM (mOf lots size l) x.c).2.1, .int .i64 (helpsM (mOf lots size l) x.c).2.2]) ∧ Ext w w' := by
  have HS := Lib.hid hs; have HT := Lib.hid hT; have HLN := Lib.hid hlen; have HXD := Lib.hid hd; have HXW := Lib.hid hw; have HXL := Lib.hid hxl
  obtain ⟨A, n, c, rfl, hn, hlc, hcm⟩ := hs.1.form
  have HL := Lib.hid (show l.length = n from hn.out.symm)
  clear hs hT hn hlen hd hw hxl
  go_enter Tryz.func34, Tryz.ntmps34
  go_wp2_with fail
  obtain ⟨w2, hw2⟩ : ∃ w2, w2 = (w.alloc (.cells #[.int .i64 lots, .int .i64 size, .slice A n c] 24)).alloc (.cells #[.int .i64 x.c.b.id, .int .i64 x.c.b.layers, .int .i64 x.c.b.dry.lo, .int .i64 x.c.b.dry.hi, .slice x.da x.dn x.dc, .slice x.wa x.wn x.wc, .int .i64 x.c.len, .int .i64 x.c.str] 63) := ⟨_, rfl⟩
  rw [← hw2]
  have E2 := Lib.hid (show Ext w w2 from hw2 ▸ (Ext.al _ _).alloc _)
  clear hw2
  refine (putM_any lots size l x _ w2 (HT.out.ext E2.out) (HS.out.ext E2.out) (HXD.out.ext E2.out) (HXW.out.ext E2.out) (by have := HLN.out; omega) HXL.out).mono ?_
  rintro e w3 ⟨⟨v, rfl, hv⟩, hE⟩
  have E3 := Lib.hid (E2.out.trans hE)
  rcases hv with ⟨he, v0, L, rfl, tv⟩ | ⟨he, rfl⟩
  · rw [he]
    have HH := Lib.hid (show helpsM (mOf lots size l) x.c = ((evenU (putM (mOf lots size l) x.c)).1, (evenU (putM (mOf lots size l) x.c)).2, bestE (putM (mOf lots size l) x.c)) by unfold helpsM; rw [if_pos he])
    have TW := Lib.hid tv
    have HLL := Lib.hid (show L.length ≤ 1000 by
      have h := congrArg List.length tv.map
      have h2 := sortK_len ((mOf lots size l).cots ++ [x.c]) ((mOf lots size l).cots.length + 1)
      have h3 : (putM (mOf lots size l) x.c).cots = sortK ((mOf lots size l).cots ++ [x.c]) ((mOf lots size l).cots.length + 1) := rfl
      rw [h3] at h
      simp at h h2
      have := HLN.out
      omega)
    clear he tv hE E2
    obtain ⟨A2, n2, c2, rfl, -, -, -⟩ := TW.out.mlc.1.form
    go_wp2_with fail
    refine (evenM_any lots size L _ _ ((HT.out.ext E3.out).ext (Ext.al _ _)) (TW.out.mlc.ext (Ext.al _ _)) HLL.out).mono ?_
    rintro e w4 ⟨rfl, hE⟩
    have E4 := Lib.hid (E3.out.trans ((Ext.al _ _).trans hE))
    rw [show mOf lots size L = putM (mOf lots size l) x.c by show (⟨lots, size, L.map (·.c)⟩ : Mll) = _; rw [TW.out.map]; rfl]
    clear hE E3
    go_wp2
    refine bodyPost_ret (v := .tuple #[.int .i64 (helpsM (mOf lots size l) x.c).1, .int .i64 (helpsM (mOf lots size l) x.c).2.1, .int .i64 (helpsM (mOf lots size l) x.c).2.2]) (by rw [HH.out]; simp [results, Tryz.results34, go_sem]) rfl ?_
    exact ⟨rfl, E4.out⟩
  · obtain ⟨er, her⟩ : ∃ er, er = putME (mOf lots size l) x.c := ⟨_, rfl⟩
    have HH := Lib.hid (show helpsM (mOf lots size l) x.c = (0, 0, er) by unfold helpsM; rw [if_neg he, her])
    rw [← her] at he ⊢
    have he' : (er == 0) = false := by simpa using he
    clear her hE E2
    go_wp2
    refine bodyPost_ret (v := .tuple #[.int .i64 (helpsM (mOf lots size l) x.c).1, .int .i64 (helpsM (mOf lots size l) x.c).2.1, .int .i64 (helpsM (mOf lots size l) x.c).2.2]) (by rw [HH.out]; simp [results, Tryz.results34, go_sem]) rfl ?_
    exact ⟨rfl, E3.out.trans (Ext.al _ _)⟩
end Go.Proofs.YtkpengeaolcjhaaGreatDoor
/- The values of the chapter's examples. -/
namespace Go.Proofs.YtkpengeaolcjhaaGreatDoor
open Go.RowKit Go.Shelf Go.Lib
set_option maxRecDepth 100000
set_option linter.unusedSimpArgs false

/-- The bales and cottons of the examples. -/
def baleX (id one other : Int) : Bale := ⟨id, 2, ⟨400, 500⟩, [⟨1, 0, ⟨one, one⟩⟩, ⟨2, 1, ⟨other, other⟩⟩], []⟩
def cotX (id len str : Int) : Cot := ⟨baleX id 3 3, len, str⟩
def worksX : List Cot := [cotX 1 28 80, cotX 2 30 84, cotX 3 31 90, cotX 4 35 70, cotX 5 36 75, ⟨baleX 6 3 7, 29, 60⟩]
def worksM : Mll := ⟨2, 2, worksX⟩
abbrev otherX : List Int := [1, 1, 0, 2, 2, 0]
theorem wk_check : checkM worksM = true := by kernel_rfl
theorem wk_fitL : fitL worksM = [true, true, true, true, true, false] := by kernel_rfl
theorem wk_fit : fitR worksM = [1, 2, 3, 4, 5] := by kernel_rfl
theorem wk_plans : plansL worksM = plansF 2 2 [true, true, true, true, true, false] [0, 0, 0] := by unfold plansL; rw [wk_fitL]; rfl
theorem wk_best : bestP worksM = some [0, 1, 1, 2, 2, 0] := by unfold bestP; rw [wk_plans]; kernel_rfl
theorem wk_bestE : bestE worksM = 0 := (be_ok wk_check wk_best).1
theorem wk_bestL : bestL worksM = [0, 1, 1, 2, 2, 0] := (be_ok wk_check wk_best).2.1
theorem wk_even : evenU worksM = (1, 6) := (be_ok wk_check wk_best).2.2.trans (by kernel_rfl)
theorem wk_ok : okPlan worksM otherX = true := by unfold okPlan; rw [wk_fitL]; kernel_rfl
theorem wk_judgeE : judgeE worksM otherX = 0 := judgeE_ok wk_check wk_ok
theorem wk_judU : judU worksM otherX = (2, 5) := (judU_ok wk_judgeE).trans (by kernel_rfl)
theorem wk_exR : (exR worksM otherX).1 = some (0, 2, (1, 6)) := by unfold exR exAll mayX; rw [wk_fitL]; kernel_rfl
theorem wk_swap : swapE worksM otherX = 0 ∧ swapO worksM otherX = (1, 3) := by
  obtain ⟨h1, h2⟩ := swap_some wk_judgeE wk_exR
  exact ⟨h1, h2.trans (by kernel_rfl)⟩
theorem wk_lots : lotsP worksM otherX = [[1, 2], [4, 5]] := (lotsP_ok wk_judgeE).trans (by kernel_rfl)
theorem wk_sorted : sortedL worksM = [28, 30, 31, 35, 36] := by kernel_rfl
theorem wk_most : mostV worksM 4 = 2 ∧ mostE worksM 4 = 0 := by
  obtain ⟨h1, h2⟩ := most_ok (L := 4) wk_check (by decide)
  refine ⟨h2.trans ?_, h1⟩
  unfold mostN
  rw [wk_sorted, ← grp_eq (by decide) 5 [28, 30, 31, 35, 36] (by decide) (by decide)]
  kernel_rfl
theorem wk_put : (putM worksM (cotX 7 31 90)).cots = worksX ++ [cotX 7 31 90] := by kernel_rfl
theorem wk_lost2 : (takeM worksM 2).cots = [cotX 1 28 80, cotX 3 31 90, cotX 4 35 70, cotX 5 36 75, ⟨baleX 6 3 7, 29, 60⟩] := by kernel_rfl
def putX : Mll := ⟨2, 2, worksX ++ [cotX 7 31 90]⟩
theorem pt_check : checkM putX = true := by kernel_rfl
theorem pt_fitL : fitL putX = [true, true, true, true, true, false, true] := by kernel_rfl
theorem pt_best : bestP putX = some [0, 0, 1, 2, 2, 0, 1] := by unfold bestP plansL; rw [pt_fitL]; kernel_rfl
theorem wk_putM : putM worksM (cotX 7 31 90) = putX := by
  show (⟨2, 2, (putM worksM (cotX 7 31 90)).cots⟩ : Mll) = _
  rw [wk_put]
  rfl
theorem wk_helps : helpsM worksM (cotX 7 31 90) = (1, 5, 0) := by
  have h : putME worksM (cotX 7 31 90) = 0 := by
    unfold putME
    rw [wk_check, if_pos rfl, if_neg (by decide), wk_putM, pt_check, if_pos rfl]
  unfold helpsM
  rw [if_pos h, wk_putM, (be_ok pt_check pt_best).1, (be_ok pt_check pt_best).2.2, show unev putX [0, 0, 1, 2, 2, 0, 1] = (1, 5) by kernel_rfl]
def lostX : Mll := ⟨2, 2, [cotX 1 28 80, cotX 3 31 90, cotX 4 35 70, cotX 5 36 75, ⟨baleX 6 3 7, 29, 60⟩]⟩
theorem lo_check : checkM lostX = true := by kernel_rfl
theorem lo_fitL : fitL lostX = [true, true, true, true, false] := by kernel_rfl
theorem lo_best : bestP lostX = some [1, 1, 2, 2, 0] := by unfold bestP plansL; rw [lo_fitL]; kernel_rfl
theorem wk_lostM : takeM worksM 2 = lostX := by
  show (⟨2, 2, (takeM worksM 2).cots⟩ : Mll) = _
  rw [wk_lost2]
  rfl
theorem wk_lost : lostM worksM 2 = (3, 10, 0) := by
  have h : takeME worksM 2 = 0 := by
    unfold takeME
    rw [wk_check, if_pos rfl]
    kernel_rfl
  unfold lostM
  rw [if_pos h, wk_lostM, (be_ok lo_check lo_best).1, (be_ok lo_check lo_best).2.2, show unev lostX [1, 1, 2, 2, 0] = (3, 10) by kernel_rfl]
theorem wk_need : needL worksM = [2, 3, 4, 5] := by
  unfold needL
  rw [if_pos wk_bestE]
  kernel_rfl
theorem wk_run : runL worksM otherX = [1, 2] ∧ runT worksM otherX = 13 := by
  have h : runL worksM otherX = [1, 2] := by unfold runL; rw [if_pos wk_judgeE]; kernel_rfl
  exact ⟨h, by unfold runT; rw [if_pos wk_judgeE, h]; kernel_rfl⟩
end Go.Proofs.YtkpengeaolcjhaaGreatDoor
/- The small functions of the outright laws of the mill: bale, cotton, works, two, ints. -/
namespace Go.Proofs.YtkpengeaolcjhaaGreatDoor
open Go.RowKit Go.Shelf Go.Lib
set_option maxRecDepth 100000
set_option linter.unusedSimpArgs false

theorem Own.litM {α : Type} {enc : α → List Value} {e : TypeId} {sz : Nat} {W : World} {base g : Nat} {l : List α} {cs : Array Value} (henc : ∀ x, (enc x).length = sz) (h : Blk W g e cs) (hcs : cs = (l.flatMap enc).toArray) (hb : base ≤ g) (hl : l.length ≤ 1000) : Own enc e sz W base (.slice (some ⟨g, 0, none⟩) l.length l.length) l := by
  have hlen := enc_len henc l
  subst hcs
  exact ⟨hlen, .inr ⟨g, l.length, _, rfl, hb, h, Nat.le_refl _, by unfold maxLen; omega, by simpa using hlen, by rw [← hlen, List.toList_toArray, List.take_length]⟩⟩
set_option maxHeartbeats 1000000 in
theorem baleX_any (id one other : Int) (w : World) : Calls Tryz.prog 36 #[.int .i64 id, .int .i64 one, .int .i64 other] w fun e w' => (∃ v, e = .returned v ∧ TwinV (baleX id one other) w.heap.size v w') ∧ Ext w w' := by
  go_enter Tryz.func36, Tryz.ntmps36
  go_wp2
  refine bodyPost_ret (v := valB (baleX id one other) (.slice (some ⟨w.heap.size + 1, 0, none⟩) 2 2) (.slice none 0 0)) (by simp [results, Tryz.results36, go_sem, baleX]) rfl ?_
  refine ⟨⟨_, rfl, _, _, rfl, ?_, Own.nil _ _⟩, (Ext.al _ _).alloc _⟩
  exact Own.litM (l := (baleX id one other).draws) (fun _ => rfl) (Blk.at_ (by simp)) (by simp [baleX]) (by omega) (by simp [baleX])
set_option maxHeartbeats 1000000 in
theorem cotX_any (id len str : Int) (w : World) : Calls Tryz.prog 45 #[.int .i64 id, .int .i64 len, .int .i64 str] w fun e w' => (∃ v, e = .returned v ∧ TwinR (cotX id len str) w.heap.size v w') ∧ Ext w w' := by
  go_enter Tryz.func45, Tryz.ntmps45
  go_wp2_with fail
  refine (baleX_any id 3 3 _).mono ?_
  rintro e w1 ⟨⟨v, rfl, dv, wv, rfl, hd, hw⟩, hE⟩
  have E1 := Lib.hid ((Ext.al w (.cells #[.int .i64 0, .int .i64 0, .int .i64 0, .int .i64 0, .slice none 0 0, .slice none 0 0, .int .i64 0, .int .i64 0] 63)).trans hE)
  have B1 := Lib.hid ((Blk.new w 63 #[.int .i64 0, .int .i64 0, .int .i64 0, .int .i64 0, .slice none 0 0, .slice none 0 0, .int .i64 0, .int .i64 0]).ext hE)
  obtain ⟨Ad, nd, cd, rfl, -, -, -⟩ := (show SlD w1 dv (baleX id 3 3).draws from hd.sl (fun _ => rfl)).form
  obtain ⟨Aw, nw, cw, rfl, -, -, -⟩ := (show SlW w1 wv (baleX id 3 3).weighs from hw.sl (fun _ => rfl)).form
  have HD := Lib.hid hd; have HW := Lib.hid hw
  clear hE hd hw
  have t0 := B1.out.cell 0
  have t1 := B1.out.cell 1
  have t2 := B1.out.cell 2
  have t3 := B1.out.cell 3
  have t4 := B1.out.cell 4
  have t5 := B1.out.cell 5
  have t6 := B1.out.cell 6
  have t7 := B1.out.cell 7
  have tf := B1.out.frozen
  have tl := B1.out.lt
  simp at t0 t1 t2 t3 t4 t5 t6 t7
  go_wp2
  refine ret_set8 B1.out fun W' ⟨b0, b1, b2, b3, b4, b5, b6, b7⟩ hW => ?_
  refine bodyPost_ret (v := valC ⟨cotX id len str, Ad, nd, cd, Aw, nw, cw⟩) (by simp [results, Tryz.results45, go_sem, b0, b1, b2, b3, b4, b5, b6, b7, cotX]) rfl ?_
  have hz : w.heap.size + 1 ≤ (w.alloc (.cells #[.int .i64 0, .int .i64 0, .int .i64 0, .int .i64 0, .slice none 0 0, .slice none 0 0, .int .i64 0, .int .i64 0] 63)).heap.size := by simp
  exact ⟨⟨_, rfl, _, rfl, rfl, ⟨own_mono (own_kept HD.out hW (by simp)) (by simp), own_mono (own_kept HW.out hW (by simp)) (by simp)⟩⟩, ext_grownP E1.out hW (by omega)⟩
theorem two_any (x y : Int) (w : World) : Calls Tryz.prog 40 #[.int .i64 x, .int .i64 y, .int .i64 0, .int .i64 x, .int .i64 y] w fun e w' => e = .returned (.bool true) ∧ Ext w w' := by
  go_enter Tryz.func40, Tryz.ntmps40
  go_wp2
  go_ret
  exact ⟨by simp, Ext.refl _⟩
theorem intsM_any (l : List Int) (v v' : Value) (w : World) (h : SlI w v l) (h' : SlI w v' l) : Calls Tryz.prog 43 #[v, .int .i64 0, v'] w fun e w' => e = .returned (.bool true) ∧ Ext w w' := by
  have H := Lib.hid (sameIntsM_any l v v' w h h')
  clear h h'
  go_enter Tryz.func43, Tryz.ntmps43
  go_wp2_with fail
  refine H.out.mono ?_
  rintro e w1 ⟨rfl, hE⟩
  have E1 := Lib.hid hE
  clear hE
  go_wp2
  go_ret
  exact ⟨rfl, E1.out⟩
end Go.Proofs.YtkpengeaolcjhaaGreatDoor
/- The mill of the examples. -/
namespace Go.Proofs.YtkpengeaolcjhaaGreatDoor
open Go.RowKit Go.Shelf Go.Lib
set_option maxRecDepth 100000
set_option linter.unusedSimpArgs false

theorem TwinR.ext {c : Cot} {base : Nat} {v : Value} {W W' : World} (h : TwinR c base v W) (e : Ext W W') : TwinR c base v W' := by
  obtain ⟨r, h1, h2, h3⟩ := h
  exact ⟨r, h1, h2, h3.ext e⟩
/-- The examples' mill, by value. -/
def WkV (base : Nat) (v : Value) (W : World) : Prop := ∃ A n c L, v = valM 2 2 (.slice A n c) ∧ TwinL base worksX (.slice A n c) L W
theorem WkV.ext {base : Nat} {v : Value} {W W' : World} (h : WkV base v W) (e : Ext W W') : WkV base v W' := by
  obtain ⟨A, n, c, L, h1, h2⟩ := h
  exact ⟨A, n, c, L, h1, h2.ext e⟩
set_option maxHeartbeats 4000000 in
theorem works_any (w : World) : Calls Tryz.prog 41 #[] w fun e w' => (∃ v L, e = .returned (valM 2 2 v) ∧ TwinL w.heap.size worksX v L w') ∧ Ext w w' := by
  go_enter Tryz.func41, Tryz.ntmps41
  go_wp2_with fail
  refine (cotX_any 6 29 60 _).mono ?_
  rintro e w1 ⟨⟨v, rfl, r, rfl, hrc, ho⟩, hE⟩
  have E1 := Lib.hid ((Ext.al w (.cells #[.int .i64 0, .int .i64 0, .slice none 0 0] 24)).trans hE)
  have B1 := Lib.hid ((Blk.new w 24 #[.int .i64 0, .int .i64 0, .slice none 0 0]).ext hE)
  have HRC := Lib.hid hrc
  clear hE hrc ho
  go_wp2_with fail
  obtain ⟨w2, hw2⟩ : ∃ w2, w2 = w1.alloc (.cells #[.int .i64 r.c.b.id, .int .i64 r.c.b.layers, .int .i64 r.c.b.dry.lo, .int .i64 r.c.b.dry.hi, .slice r.da r.dn r.dc, .slice r.wa r.wn r.wc, .int .i64 r.c.len, .int .i64 r.c.str] 63) := ⟨_, rfl⟩
  rw [← hw2]
  have E2 := Lib.hid (show Ext w w2 from hw2 ▸ E1.out.alloc _)
  have B2 := Lib.hid (show Blk w2 w.heap.size 24 #[.int .i64 0, .int .i64 0, .slice none 0 0] from hw2 ▸ B1.out.alloc _)
  have G2 := Lib.hid (show Blk w2 w1.heap.size 63 #[.int .i64 r.c.b.id, .int .i64 r.c.b.layers, .int .i64 r.c.b.dry.lo, .int .i64 r.c.b.dry.hi, .slice r.da r.dn r.dc, .slice r.wa r.wn r.wc, .int .i64 r.c.len, .int .i64 r.c.str] from hw2 ▸ Blk.new _ _ _)
  have HLT := Lib.hid (show w.heap.size < w1.heap.size from B1.out.lt)
  clear hw2
  refine (baleX_any 6 3 7 _).mono ?_
  rintro e w3 ⟨⟨v, rfl, dv, wv, rfl, hd, hw⟩, hE⟩
  have E3 := Lib.hid (E2.out.trans hE)
  have B3 := Lib.hid (B2.out.ext hE)
  have G3 := Lib.hid (G2.out.ext hE)
  obtain ⟨Ad, nd, cd, rfl, -, -, -⟩ := (show SlD w3 dv (baleX 6 3 7).draws from hd.sl (fun _ => rfl)).form
  obtain ⟨Aw, nw, cw, rfl, -, -, -⟩ := (show SlW w3 wv (baleX 6 3 7).weighs from hw.sl (fun _ => rfl)).form
  have HD := Lib.hid hd; have HW := Lib.hid hw
  have HZ2 := Lib.hid (show w1.heap.size < w2.heap.size from G2.out.lt)
  clear hE hd hw E2 B2 G2
  have t0 := G3.out.cell 0
  have t1 := G3.out.cell 1
  have t2 := G3.out.cell 2
  have t3 := G3.out.cell 3
  have t4 := G3.out.cell 4
  have t5 := G3.out.cell 5
  have tf := G3.out.frozen
  have tl := G3.out.lt
  simp at t0 t1 t2 t3 t4 t5
  go_wp2
  obtain ⟨w5, hw5⟩ : ∃ w5, w5 = (((((w3.setCell ⟨w1.heap.size, 0, none⟩ (.int .i64 (baleX 6 3 7).id)).setCell ⟨w1.heap.size, 1, none⟩ (.int .i64 (baleX 6 3 7).layers)).setCell ⟨w1.heap.size, 2, none⟩ (.int .i64 (baleX 6 3 7).dry.lo)).setCell ⟨w1.heap.size, 3, none⟩ (.int .i64 (baleX 6 3 7).dry.hi)).setCell ⟨w1.heap.size, 4, none⟩ (.slice Ad nd cd)).setCell ⟨w1.heap.size, 5, none⟩ (.slice Aw nw cw) := ⟨_, rfl⟩
  have hG5 : w3.grownBy w5 (some w1.heap.size) := hw5 ▸ grown_set (grown_set (grown_set (grown_set (grown_set (grown_set (World.grownBy.refl _ _) (p := ⟨w1.heap.size, 0, none⟩) (.inl rfl) _) (p := ⟨w1.heap.size, 1, none⟩) (.inl rfl) _) (p := ⟨w1.heap.size, 2, none⟩) (.inl rfl) _) (p := ⟨w1.heap.size, 3, none⟩) (.inl rfl) _) (p := ⟨w1.heap.size, 4, none⟩) (.inl rfl) _) (p := ⟨w1.heap.size, 5, none⟩) (.inl rfl) _
  have HLC := Lib.hid (show r.c.len = 29 ∧ r.c.str = 60 by rw [HRC.out]; exact ⟨rfl, rfl⟩)
  obtain ⟨r6, hr6⟩ : ∃ r6 : Rc, r6 = ⟨⟨baleX 6 3 7, 29, 60⟩, Ad, nd, cd, Aw, nw, cw⟩ := ⟨_, rfl⟩
  have G5 := Lib.hid (show Blk w5 w1.heap.size 63 (encC r6).toArray by
    have K := (((((G3.out.set_ 0 (.int .i64 (baleX 6 3 7).id)).set_ 1 (.int .i64 (baleX 6 3 7).layers)).set_ 2 (.int .i64 (baleX 6 3 7).dry.lo)).set_ 3 (.int .i64 (baleX 6 3 7).dry.hi)).set_ 4 (.slice Ad nd cd)).set_ 5 (.slice Aw nw cw)
    rw [HLC.out.1, HLC.out.2] at K
    rw [hw5, hr6]
    exact K)
  have E5 := Lib.hid (show Ext w w5 from ext_grown E3.out hG5 (by have := HLT.out; omega))
  have B5 := Lib.hid (B3.out.grown hG5 (by intro e; injection e with e; have := HLT.out; omega))
  have HZ5 := Lib.hid (show w.heap.size ≤ w5.heap.size from E5.out.size)
  have O6 := Lib.hid (show OwnR w.heap.size r6 w5 by
    rw [hr6]
    exact ⟨own_mono (own_kept HD.out hG5 (by have := HZ2.out; omega)) (by have := HLT.out; have := HZ2.out; omega), own_mono (own_kept HW.out hG5 (by have := HZ2.out; omega)) (by have := HLT.out; have := HZ2.out; omega)⟩)
  have HC6 := Lib.hid (show r6.c = ⟨baleX 6 3 7, 29, 60⟩ by rw [hr6])
  clear t0 t1 t2 t3 t4 t5 tf tl hG5 hr6 HD HW HLC HRC HLT HZ2 E3 B3 G3 E1 B1
  rw [← hw5]
  clear hw5
  have q0 := fun V (h : Ext w5 V) => (show V.cell? ⟨w1.heap.size, 0, none⟩ = some (.int .i64 r6.c.b.id) from (G5.out.ext h).cell 0)
  have q1 := fun V (h : Ext w5 V) => (show V.cell? ⟨w1.heap.size, 1, none⟩ = some (.int .i64 r6.c.b.layers) from (G5.out.ext h).cell 1)
  have q2 := fun V (h : Ext w5 V) => (show V.cell? ⟨w1.heap.size, 2, none⟩ = some (.int .i64 r6.c.b.dry.lo) from (G5.out.ext h).cell 2)
  have q3 := fun V (h : Ext w5 V) => (show V.cell? ⟨w1.heap.size, 3, none⟩ = some (.int .i64 r6.c.b.dry.hi) from (G5.out.ext h).cell 3)
  have q4 := fun V (h : Ext w5 V) => (show V.cell? ⟨w1.heap.size, 4, none⟩ = some (.slice r6.da r6.dn r6.dc) from (G5.out.ext h).cell 4)
  have q5 := fun V (h : Ext w5 V) => (show V.cell? ⟨w1.heap.size, 5, none⟩ = some (.slice r6.wa r6.wn r6.wc) from (G5.out.ext h).cell 5)
  have q6 := fun V (h : Ext w5 V) => (show V.cell? ⟨w1.heap.size, 6, none⟩ = some (.int .i64 r6.c.len) from (G5.out.ext h).cell 6)
  have q7 := fun V (h : Ext w5 V) => (show V.cell? ⟨w1.heap.size, 7, none⟩ = some (.int .i64 r6.c.str) from (G5.out.ext h).cell 7)
  refine wp_region_tame_cut (fun W => Ext w5 W) (fun W W' => Ext W W') (by kernel_rfl) 13 rfl _ rfl (by decide +kernel) (by decide +kernel) (by decide +kernel) rfl (Ext.refl _).drew ?_
  simp only [List.dropLast]
  apply tame_v rfl (TwinR (cotX 1 28 80) w.heap.size) (fun v V V' _ hE h => h.ext hE)
  · intro ρ V hC hr hD
    obtain ⟨hrc, hrg, hrf, hrs⟩ := hr
    simp [go_sem] at hD
    have HC := Lib.hid hC
    go_simp
    refine (cotX_any 1 28 80 V).mono ?_
    rintro e w' ⟨⟨v, rfl, r, h1, h2, h3⟩, hE⟩
    exact ⟨_, rfl, ⟨HC.out.trans hE, hE⟩, ⟨r, h1, h2, h3.mono (Nat.le_trans HZ5.out HC.out.size)⟩⟩
  simp only [List.nil_append, List.cons_append]
  apply tame_v rfl (TwinR (cotX 2 30 84) w.heap.size) (fun v V V' _ hE h => h.ext hE)
  · intro ρ V hC hr hD
    obtain ⟨hrc, hrg, hrf, hrs⟩ := hr
    simp [go_sem] at hD
    have HC := Lib.hid hC
    go_simp
    refine (cotX_any 2 30 84 V).mono ?_
    rintro e w' ⟨⟨v, rfl, r, h1, h2, h3⟩, hE⟩
    exact ⟨_, rfl, ⟨HC.out.trans hE, hE⟩, ⟨r, h1, h2, h3.mono (Nat.le_trans HZ5.out HC.out.size)⟩⟩
  simp only [List.nil_append, List.cons_append]
  apply tame_v rfl (TwinR (cotX 3 31 90) w.heap.size) (fun v V V' _ hE h => h.ext hE)
  · intro ρ V hC hr hD
    obtain ⟨hrc, hrg, hrf, hrs⟩ := hr
    simp [go_sem] at hD
    have HC := Lib.hid hC
    go_simp
    refine (cotX_any 3 31 90 V).mono ?_
    rintro e w' ⟨⟨v, rfl, r, h1, h2, h3⟩, hE⟩
    exact ⟨_, rfl, ⟨HC.out.trans hE, hE⟩, ⟨r, h1, h2, h3.mono (Nat.le_trans HZ5.out HC.out.size)⟩⟩
  simp only [List.nil_append, List.cons_append]
  apply tame_v rfl (TwinR (cotX 4 35 70) w.heap.size) (fun v V V' _ hE h => h.ext hE)
  · intro ρ V hC hr hD
    obtain ⟨hrc, hrg, hrf, hrs⟩ := hr
    simp [go_sem] at hD
    have HC := Lib.hid hC
    go_simp
    refine (cotX_any 4 35 70 V).mono ?_
    rintro e w' ⟨⟨v, rfl, r, h1, h2, h3⟩, hE⟩
    exact ⟨_, rfl, ⟨HC.out.trans hE, hE⟩, ⟨r, h1, h2, h3.mono (Nat.le_trans HZ5.out HC.out.size)⟩⟩
  simp only [List.nil_append, List.cons_append]
  apply tame_v rfl (TwinR (cotX 5 36 75) w.heap.size) (fun v V V' _ hE h => h.ext hE)
  · intro ρ V hC hr hD
    obtain ⟨hrc, hrg, hrf, hrs⟩ := hr
    simp [go_sem] at hD
    have HC := Lib.hid hC
    go_simp
    refine (cotX_any 5 36 75 V).mono ?_
    rintro e w' ⟨⟨v, rfl, r, h1, h2, h3⟩, hE⟩
    exact ⟨_, rfl, ⟨HC.out.trans hE, hE⟩, ⟨r, h1, h2, h3.mono (Nat.le_trans HZ5.out HC.out.size)⟩⟩
  simp only [List.nil_append, List.cons_append]
  repeat (apply tame_q rfl; (intro ρ W hC hr hD; (obtain ⟨hrc, hrg, hrf, hrs⟩ := hr); (simp [go_sem] at hD); go_simp; first | exact ⟨⟨hC, Ext.refl _⟩, rfl⟩ | exact ⟨⟨hC, RS.refl _⟩, rfl⟩ | exact rfl); simp only [List.nil_append, List.cons_append])
  apply tame_v rfl (fun v V => ∃ L, TwinL w.heap.size worksX v L V) (fun v V V' _ hE ⟨L, h⟩ => ⟨L, h.ext hE⟩)
  · intro ρ V hC hr hD
    obtain ⟨hrc, hrg, hrf, hrs⟩ := hr
    simp [go_sem] at hD
    obtain ⟨⟨r1, e1, c1, o1⟩, ⟨r2, e2, c2, o2⟩, ⟨r3, e3, c3, o3⟩, ⟨r4, e4, c4, o4⟩, ⟨r5, e5, c5, o5⟩, e6⟩ := hD
    have HL := Lib.hid (show OwnR w.heap.size r1 V ∧ OwnR w.heap.size r2 V ∧ OwnR w.heap.size r3 V ∧ OwnR w.heap.size r4 V ∧ OwnR w.heap.size r5 V from ⟨o1, o2, o3, o4, o5⟩)
    have HMP := Lib.hid (show ([r1, r2, r3, r4, r5, r6] : List Rc).map (·.c) = worksX by simp [c1, c2, c3, c4, c5, HC6.out, worksX])
    have HC := Lib.hid hC
    clear c1 c2 c3 c4 c5 o1 o2 o3 o4 o5
    go_simp
    refine ⟨⟨HC.out.alloc _, Ext.al _ _⟩, [r1, r2, r3, r4, r5, r6], ⟨?_, ?_, HMP.out⟩⟩
    · exact Own.litM (enc := encC) (l := ([r1, r2, r3, r4, r5, r6] : List Rc)) (fun _ => rfl) (Blk.new _ _ _) rfl (Nat.le_trans HZ5.out HC.out.size) (by simp)
    · intro r hr
      have h : ∀ x, OwnR w.heap.size x V → OwnR w.heap.size x (V.alloc (.cells ([r1, r2, r3, r4, r5, r6].flatMap encC).toArray 63)) := fun x hx => hx.ext (Ext.al _ _)
      obtain ⟨h1, h2, h3, h4, h5⟩ := HL.out
      simp only [List.mem_cons, List.not_mem_nil, or_false] at hr
      rcases hr with rfl | rfl | rfl | rfl | rfl | rfl
      · exact h _ h1
      · exact h _ h2
      · exact h _ h3
      · exact h _ h4
      · exact h _ h5
      · exact h _ (O6.out.ext HC.out)
  simp only [List.nil_append, List.cons_append]
  apply tame_v rfl (WkV w.heap.size) (fun v V V' _ hE h => h.ext hE)
  · intro ρ V hC hr hD
    obtain ⟨hrc, hrg, hrf, hrs⟩ := hr
    simp [go_sem] at hD
    obtain ⟨L, tl⟩ := hD
    obtain ⟨A, n, c, ev, -, -, -⟩ := tl.mlc.1.form
    have TL := Lib.hid tl
    have HC := Lib.hid hC
    rw [ev] at TL
    clear tl
    go_simp
    exact ⟨⟨HC.out, Ext.refl _⟩, A, n, c, L, rfl, TL.out⟩
  simp only [List.nil_append, List.cons_append]
  refine tame_end 13 rfl rfl (fun ρ V hC hr hF => ?_)
  obtain ⟨hrc, hrg, hrf, hrs⟩ := hr
  simp [go_sem] at hF
  obtain ⟨f5, f6, f7, f8, f9, f10, f11, A, n, c, L, f12, tl⟩ := hF
  apply frame_to
  · go_simp
    exact rfl
  have TL := Lib.hid tl
  have EV := Lib.hid (E5.out.trans hC)
  have BV := Lib.hid (B5.out.ext hC)
  have HZV := Lib.hid (show w.heap.size < V.heap.size from BV.out.lt)
  clear f5 f6 f7 f8 f9 f10 f11 f12 tl hC hrs hrc hrg hrf q0 q1 q2 q3 q4 q5 q6 q7
  obtain ⟨t0, t1, t2, tf, tl⟩ := BV.out.c3
  go_wp2
  refine ret_set3N BV.out fun W' ⟨b0, b1, b2⟩ hW => ?_
  refine bodyPost_ret (v := valM 2 2 (.slice A n c)) (by simp [results, Tryz.results41, go_sem, b0, b1, b2]) rfl ?_
  refine ⟨⟨_, L, rfl, ?_⟩, ext_grownP EV.out hW (Nat.le_refl _)⟩
  exact TL.out.offX (offX_grown BV.out hW)
end Go.Proofs.YtkpengeaolcjhaaGreatDoor
/- The small functions of the outright laws of the mill: ready, less, before, choice, fitted. -/
namespace Go.Proofs.YtkpengeaolcjhaaGreatDoor
open Go.RowKit Go.Shelf Go.Lib
set_option maxRecDepth 100000
set_option linter.unusedSimpArgs false

abbrev encU8 (x : Int) : List Value := [.int .u8 x]
theorem encU8_cell {w W : World} {b off k : Nat} {x : Int} (h : ∀ W, Ext w W → ∀ j u, (encU8 x)[j]? = some u → W.cell? ⟨b, off + k * 1 + j, none⟩ = some u) (hW : Ext w W) : W.cell? ⟨b, off + k, none⟩ = some (.int .u8 x) := by
  simpa using h W hW 0 _ rfl
theorem readyM_any (lots size : Int) (l : List Rc) (sv : Value) (w : World) (hs : MlC w sv l) :
    Calls Tryz.prog 23 #[valM lots size sv] w fun e w' => e = .returned (.bool (!greatM l && checkM (mOf lots size l))) ∧ Ext w w' := by
  have HS := Lib.hid hs
  obtain ⟨A, n, c, rfl, hn, hlc, hcm⟩ := hs.1.form
  obtain ⟨g, hg⟩ : ∃ g, greatM l = g := ⟨_, rfl⟩
  rw [hg]
  have HG := Lib.hid hg
  clear hs hn hg
  go_enter Tryz.func23, Tryz.ntmps23
  go_wp2_with fail
  refine (greatM_any lots size l _ _ (HS.out.ext (Ext.al _ _))).mono ?_
  rintro e w1 ⟨rfl, hE⟩
  have HE1 := Lib.hid ((Ext.al w (.cells #[.int .i64 lots, .int .i64 size, .slice A n c] 24)).trans hE)
  have HB1 := Lib.hid ((Blk.new w 24 #[.int .i64 lots, .int .i64 size, .slice A n c]).ext hE)
  clear hE
  rw [HG.out]
  clear HG
  cases g with
  | true =>
    go_wp2
    go_ret
    exact ⟨rfl, HE1.out⟩
  | false =>
    obtain ⟨b0, b1, b2, bf, bl⟩ := HB1.out.c3
    go_wp2_with fail
    refine (refMill_any lots size l _ _ (HS.out.ext HE1.out)).mono ?_
    rintro e w2 ⟨rfl, hE⟩
    rw [millR_eq]
    have HE2 := Lib.hid (HE1.out.trans hE)
    clear hE b0 b1 b2 bf bl
    go_wp2
    go_ret
    exact ⟨by simp, HE2.out⟩
theorem befL_step {l r : List Int} {k : Nat} {a b : Int} (ha : l[k]? = some a) (hb : r[k]? = some b) : befL (l.drop k) (r.drop k) = if a = b then befL (l.drop (k + 1)) (r.drop (k + 1)) else decide (a < b) := by
  rw [drop_at ha, drop_at hb, befL]
set_option maxHeartbeats 2000000 in
theorem before_any (l r : List Int) (v v' : Value) (w : World) (hl : l.length = r.length) (h : SlI w v l) (h' : SlI w v' r) :
    Calls Tryz.prog 30 #[v, v'] w fun e w' => e = .returned (.bool (befL l r)) ∧ Ext w w' := by
  have HS := Lib.hid h; have HR := Lib.hid h'
  obtain ⟨A, n, c, rfl, hn, hlc, hcm⟩ := h.form
  obtain ⟨A2, n2, c2, rfl, hn2, hlc2, hcm2⟩ := h'.form
  have hnn : n2 = n := by have := hn.out; have := hn2.out; omega
  subst hnn
  have HNL := Lib.hid (show l.length = n2 from hn.out.symm)
  have HNR := Lib.hid (show r.length = n2 from hn2.out.symm)
  obtain ⟨tot, htot⟩ : ∃ tot, befL l r = tot := ⟨_, rfl⟩
  have HT := Lib.hid htot
  rw [htot]
  clear h h' hl hn hn2 htot
  go_enter Tryz.func30, Tryz.ntmps30
  go_wp2
  go_loopg [8] n2 (fun gg s8 wr => ∃ k : Nat, k ≤ n2 ∧ n2 - k ≤ gg ∧ s8 = .int .i64 (k : Int) ∧ Aside (befL (l.drop k) (r.drop k) = tot) ∧ Aside (Ext w wr))
  case atStart => exact ⟨0, by omega, by omega, by simp, by rw [List.drop_zero, List.drop_zero]; exact HT.out, Ext.refl _⟩
  case round =>
    obtain ⟨k, hk, hgg, rfl, BK, EW⟩ := hrel
    by_cases hlt : k < n2
    · have hltz : (k : Int) < (n2 : Int) := by omega
      have hkz : (0 : Int) ≤ (k : Int) := by omega
      obtain ⟨b1, off1, x, rfl, hx, -, hcx⟩ := HS.out.at_ hlt
      obtain ⟨b2, off2, y, rfl, hy, -, hcy⟩ := HR.out.at_ hlt
      have HST := Lib.hid (befL_step hx hy)
      have c0 := fun W' (h : Ext wr W') => SlI.cell hcx (EW.out.trans h)
      have c1 := fun W' (h : Ext wr W') => SlI.cell hcy (EW.out.trans h)
      clear hx hy
      by_cases hxy : x = y
      · subst hxy
        have HN := Lib.hid (show befL (l.drop (k + 1)) (r.drop (k + 1)) = tot by rw [← BK.out, HST.out, if_pos rfl])
        go_wp2_with fail
        refine wp_region_tame (fun W => Ext wr W) (fun W W' => Ext W W') (by kernel_rfl) 30 rfl (by decide +kernel) (Ext.refl _).drew ?_
        repeat (apply tame_q rfl; (intro ρ W hC hr hD; (obtain ⟨hrc, hrg, hrf, hrs⟩ := hr); (simp [go_sem] at hD); go_simp; first | exact ⟨⟨hC, Ext.refl _⟩, rfl⟩ | exact ⟨⟨hC, RS.refl _⟩, rfl⟩ | exact rfl); simp only [List.nil_append, List.cons_append])
        refine tame_end 30 rfl rfl (fun ρ W' hC hr hF => ?_)
        obtain ⟨hrc, hrg, hrf, hrs⟩ := hr
        simp [go_sem] at hF
        apply frame_to
        · go_simp
          exact rfl
        clear hF hrs hrc hrg hrf
        have EW2 := Lib.hid (EW.out.trans hC)
        clear c0 c1 hC
        go_wp2
        go_roundg (n2 - (k + 1))
        case measure => omega
        case rel => exact ⟨k + 1, by omega, by omega, by simp, HN.out, EW2.out⟩
      · have hxb : (x == y) = false := by simpa using hxy
        have HN := Lib.hid (show decide (x < y) = tot by rw [← BK.out, HST.out, if_neg hxy])
        go_wp2_with fail
        refine wp_region_tame (fun W => Ext wr W) (fun W W' => Ext W W') (by kernel_rfl) 30 rfl (by decide +kernel) (Ext.refl _).drew ?_
        repeat (apply tame_q rfl; (intro ρ W hC hr hD; (obtain ⟨hrc, hrg, hrf, hrs⟩ := hr); (simp [go_sem] at hD); go_simp; first | exact ⟨⟨hC, Ext.refl _⟩, rfl⟩ | exact ⟨⟨hC, RS.refl _⟩, rfl⟩ | exact rfl); simp only [List.nil_append, List.cons_append])
        refine tame_end 30 rfl rfl (fun ρ W' hC hr hF => ?_)
        obtain ⟨hrc, hrg, hrf, hrs⟩ := hr
        simp [go_sem] at hF
        apply frame_to
        · go_simp
          exact rfl
        clear hF hrs hrc hrg hrf
        have EW2 := Lib.hid (EW.out.trans hC)
        obtain ⟨wq, hwq⟩ : ∃ wq, wq = wr := ⟨_, rfl⟩
        have hcx' := fun V (h : Ext W' V) => c0 V (hC.trans h)
        have hcy' := fun V (h : Ext W' V) => c1 V (hC.trans h)
        clear c0 c1 hC hwq
        rename_i wz
        go_wp2_with fail
        refine wp_region_tame (fun W => Ext W' W) (fun W W' => Ext W W') (by kernel_rfl) 30 rfl (by decide +kernel) (Ext.refl _).drew ?_
        repeat (apply tame_q rfl; (intro ρ W hC hr hD; (obtain ⟨hrc, hrg, hrf, hrs⟩ := hr); (simp [go_sem] at hD); go_simp; first | exact ⟨⟨hC, Ext.refl _⟩, rfl⟩ | exact ⟨⟨hC, RS.refl _⟩, rfl⟩ | exact rfl); simp only [List.nil_append, List.cons_append])
        refine tame_end 30 rfl rfl (fun ρ W2 hC hr hF => ?_)
        obtain ⟨hrc, hrg, hrf, hrs⟩ := hr
        simp [go_sem] at hF
        apply frame_to
        · go_simp
          exact rfl
        clear hF hrs hrc hrg hrf hcx' hcy'
        have EW3 := Lib.hid (EW2.out.trans hC)
        clear hC
        go_wp2
        go_ret
        exact ⟨by rw [← HN.out]; rfl, EW3.out⟩
    · have HN := Lib.hid (show tot = false by rw [← BK.out, List.drop_eq_nil_of_le (by have := HNL.out; omega), List.drop_eq_nil_of_le (by have := HNR.out; omega)]; rfl)
      go_wp2
      go_ret
      exact ⟨by rw [HN.out]; rfl, EW.out⟩
theorem choice_any (by' : List Int) (v : Value) (i : Nat) (w : World) (hi : i ≤ 1000) (h : Sl encU8 1 w v by') (hb : ∀ x ∈ by', 0 ≤ x ∧ x ≤ 255) :
    Calls Tryz.prog 68 #[v, .int .i64 (i : Int)] w fun e w' => (∃ k : Nat, k ≤ 255 ∧ e = .returned (.int .i64 (k : Int))) ∧ Ext w w' := by
  have HS := Lib.hid h
  obtain ⟨A, n, c, rfl, hn, hlc, hcm⟩ := h.form
  have HNL := Lib.hid (show by'.length = n from hn.out.symm)
  have HB := Lib.hid hb
  clear h hn hb
  by_cases h0 : n = 0
  · subst h0
    go_enter Tryz.func68, Tryz.ntmps68
    go_wp2
    go_ret
    exact ⟨⟨0, by omega, rfl⟩, Ext.refl _⟩
  · have h0z : ((n : Int) == 0) = false := by simp; omega
    have hnz : (n : Int) ≠ 0 := by omega
    obtain ⟨m, hm⟩ : ∃ m, i % n = m := ⟨_, rfl⟩
    have hmn : m < n := by rw [← hm]; exact Nat.mod_lt _ (by omega)
    have htm : (i : Int).tmod (n : Int) = (m : Int) := by rw [Int.tmod_eq_emod_of_nonneg (by omega), ← hm]; omega
    have hmz : (m : Int) < (n : Int) := by omega
    have hm0 : (0 : Int) ≤ (m : Int) := by omega
    obtain ⟨b, off, x, rfl, hx, -, hcx⟩ := HS.out.at_ hmn
    obtain ⟨hx0, hx5⟩ := HB.out x (List.mem_of_getElem? hx)
    have c0 := encU8_cell hcx (Ext.refl _)
    obtain ⟨k, hk⟩ : ∃ k : Nat, x = (k : Int) := ⟨x.toNat, by omega⟩
    subst hk
    have hkw : IntKind.i64.wrap (k : Int) = (k : Int) := wrap_nat (by omega)
    have hk5 : k ≤ 255 := by omega
    clear hx hm hcx
    go_enter Tryz.func68, Tryz.ntmps68
    go_wp2
    go_ret
    exact ⟨⟨k, hk5, by first | rfl | simp [hkw]⟩, Ext.refl _⟩
end Go.Proofs.YtkpengeaolcjhaaGreatDoor
/- The reference's SameLists. -/
namespace Go.Proofs.YtkpengeaolcjhaaGreatDoor
open Go.RowKit Go.Shelf Go.Lib
set_option maxRecDepth 100000
set_option linter.unusedSimpArgs false

theorem tri_cell {w W : World} {b off k : Nat} {x : Tri} (h : ∀ W, Ext w W → ∀ j u, (encT x)[j]? = some u → W.cell? ⟨b, off + k * 1 + j, none⟩ = some u) (hW : Ext w W) : W.cell? ⟨b, off + k, none⟩ = some (.slice x.1 x.2.1 x.2.2) := by
  simpa using h W hW 0 _ rfl
theorem sameLists_any (L : List (List Int)) (v v' : Value) (w : World) (h : RdLL w v L) (h' : RdLL w v' L) :
    Calls Tryz.prog 42 #[v, v'] w fun e w' => e = .returned (.bool true) ∧ Ext w w' := by
  obtain ⟨ts, h1, h2, h3⟩ := h
  obtain ⟨ts', h1', h2', h3'⟩ := h'
  obtain ⟨A, n, cp, rfl, hn, hlc, hcm⟩ := h1.form
  obtain ⟨A2, n2, cp2, rfl, hn2, hlc2, hcm2⟩ := h1'.form
  have HA := Lib.hid h1; have HB := Lib.hid h1'; have HR := Lib.hid h3; have HR' := Lib.hid h3'
  have hnn : n2 = n := by have := hn.out; have := hn2.out; omega
  subst hnn
  have HN := Lib.hid (show L.length = n2 by have := hn.out; omega)
  clear h1 h1' h2 h2' h3 h3' hn hn2
  go_enter Tryz.func42, Tryz.ntmps42
  go_wp2
  go_loopg [5] n2 (fun gg s wr => ∃ (k : Nat), k ≤ n2 ∧ n2 - k ≤ gg ∧ s = .int .i64 k ∧ Aside (Ext w wr))
  case atStart => exact ⟨0, by omega, by omega, rfl, Ext.refl _⟩
  case round =>
    obtain ⟨k, hk, hg, rfl, EW⟩ := hrel
    by_cases hlt : k < n2
    · have hjz : (k : Int) < (n2 : Int) := by omega
      obtain ⟨bb, off, x, rfl, hx, hb, hcell⟩ := HA.out.at_ hlt
      obtain ⟨bb', off', x', rfl, hx', hb', hcell'⟩ := HB.out.at_ hlt
      obtain ⟨l, hl⟩ : ∃ l, L[k]? = some l := ⟨_, List.getElem?_eq_getElem (by have := HN.out; omega)⟩
      have X := Lib.hid (HR.out k x l hx hl)
      have X' := Lib.hid (HR'.out k x' l hx' hl)
      have c0 := fun W (h : Ext wr W) => tri_cell hcell (EW.out.trans h)
      have d0 := fun W (h : Ext wr W) => tri_cell hcell' (EW.out.trans h)
      clear hx hx' hcell hcell' hl
      go_wp2
      refine wp_region_tame (fun W => Ext wr W) (fun W W' => Ext W W') (by kernel_rfl) 27 rfl (by decide +kernel) (Ext.refl _).drew ?_
      repeat (apply tame_q rfl; (intro ρ W hC hr hD; (obtain ⟨hrc, hrg, hrf, hrs⟩ := hr); (simp [go_sem] at hD); go_simp; first | exact ⟨⟨hC, Ext.refl _⟩, rfl⟩ | exact ⟨⟨hC, RS.refl _⟩, rfl⟩ | exact rfl); simp only [List.nil_append, List.cons_append])
      apply tame_q rfl
      · intro ρ W hC hr hD
        obtain ⟨hrc, hrg, hrf, hrs⟩ := hr
        simp [go_sem] at hD
        go_simp
        refine (sameIntsM_any l _ _ W (X.out.ext (EW.out.trans hC)) (X'.out.ext (EW.out.trans hC))).mono ?_
        rintro e w' ⟨rfl, hE⟩
        exact ⟨_, rfl, ⟨hC.trans hE, hE⟩, rfl⟩
      simp only [List.nil_append, List.cons_append]
      repeat (apply tame_q rfl; (intro ρ W hC hr hD; (obtain ⟨hrc, hrg, hrf, hrs⟩ := hr); (simp [go_sem] at hD); go_simp; first | exact ⟨⟨hC, Ext.refl _⟩, rfl⟩ | exact ⟨⟨hC, RS.refl _⟩, rfl⟩ | exact rfl); simp only [List.nil_append, List.cons_append])
      refine tame_end 27 rfl rfl (fun ρ W hC hr hF => ?_)
      obtain ⟨hrc, hrg, hrf, hrs⟩ := hr
      simp [go_sem] at hF
      apply frame_to
      · go_simp
        exact rfl
      clear hF hrs hrc hrg hrf
      have HC := Lib.hid hC; clear hC c0 d0
      go_wp2
      go_roundg (n2 - (k + 1))
      case measure => omega
      case rel => exact ⟨k + 1, by omega, by omega, rfl, EW.out.trans HC.out⟩
    · go_wp2
      go_ret
      exact ⟨rfl, EW.out⟩
end Go.Proofs.YtkpengeaolcjhaaGreatDoor
/- The outright laws' alive (layer 9): the chapter's examples hold. -/
namespace Go.Proofs.YtkpengeaolcjhaaGreatDoor
open Go.RowKit Go.Shelf Go.Lib
set_option maxRecDepth 100000
set_option linter.unusedSimpArgs false

/-- The slice reads as the examples' cottons. -/
def WkM (sv : Value) (W : World) : Prop := ∃ L, MlC W sv L ∧ L.map (·.c) = worksX
theorem WkM.ext {sv : Value} {W W' : World} (h : WkM sv W) (e : Ext W W') : WkM sv W' := by
  obtain ⟨L, h1, h2⟩ := h
  exact ⟨L, h1.ext e, h2⟩
theorem WkM.of {sv : Value} {W : World} (h : WkM sv W) : ∃ L, MlC W sv L ∧ mOf 2 2 L = worksM ∧ L.length ≤ 900 := by
  obtain ⟨L, h1, h2⟩ := h
  refine ⟨L, h1, by show (⟨2, 2, L.map (·.c)⟩ : Mll) = _; rw [h2]; rfl, ?_⟩
  have := congrArg List.length h2
  simp [worksX] at this
  omega

theorem wFit (sv : Value) (w : World) (hT : TabM w) (hw : WkM sv w) : Calls Tryz.prog 35 #[valM 2 2 sv] w fun e w' => (∃ v, e = .returned (.tuple #[v, .int .i64 0]) ∧ SlI w' v [1, 2, 3, 4, 5]) ∧ Ext w w' := by
  obtain ⟨L, h1, h2, h3⟩ := hw.of
  have h := fitM_any 2 2 L sv w hT h1 (by omega)
  rw [h2, wk_fit, wk_check] at h
  exact h

theorem wBest (sv : Value) (w : World) (hT : TabM w) (hw : WkM sv w) : Calls Tryz.prog 25 #[valM 2 2 sv] w fun e w' => (∃ v, e = .returned (.tuple #[v, .int .i64 0]) ∧ SlI w' v [0, 1, 1, 2, 2, 0]) ∧ Ext w w' := by
  obtain ⟨L, h1, h2, h3⟩ := hw.of
  have h := bestM_any 2 2 L sv w hT h1 (by omega)
  rw [h2, wk_bestE, wk_bestL] at h
  exact h

theorem wEven (sv : Value) (w : World) (hT : TabM w) (hw : WkM sv w) : Calls Tryz.prog 26 #[valM 2 2 sv] w fun e w' => e = .returned (.tuple #[.int .i64 1, .int .i64 6, .int .i64 0]) ∧ Ext w w' := by
  obtain ⟨L, h1, h2, h3⟩ := hw.of
  have h := evenM_any 2 2 L sv w hT h1 (by omega)
  rw [h2, wk_bestE, wk_even] at h
  exact h

theorem wJudge (sv : Value) (pv : Value) (w : World) (hT : TabM w) (hw : WkM sv w) (hp : SlI w pv otherX) : Calls Tryz.prog 28 #[valM 2 2 sv, pv] w fun e w' => e = .returned (.tuple #[.int .i64 2, .int .i64 5, .int .i64 0]) ∧ Ext w w' := by
  obtain ⟨L, h1, h2, h3⟩ := hw.of
  have h := judgeM_any 2 2 L otherX sv pv w hT h1 hp (by omega)
  rw [h2, wk_judgeE, wk_judU] at h
  exact h

theorem wSwap (sv : Value) (pv : Value) (w : World) (hT : TabM w) (hw : WkM sv w) (hp : SlI w pv otherX) : Calls Tryz.prog 31 #[valM 2 2 sv, pv] w fun e w' => e = .returned (.tuple #[.int .i64 1, .int .i64 3, .int .i64 0]) ∧ Ext w w' := by
  obtain ⟨L, h1, h2, h3⟩ := hw.of
  have h := swapM_any 2 2 L otherX sv pv w hT h1 hp (by omega)
  rw [h2, wk_swap.1, wk_swap.2] at h
  exact h

theorem wLots (sv : Value) (pv : Value) (w : World) (hT : TabM w) (hw : WkM sv w) (hp : SlI w pv otherX) : Calls Tryz.prog 37 #[valM 2 2 sv, pv] w fun e w' => (∃ v, e = .returned (.tuple #[v, .int .i64 0]) ∧ RdLL w' v [[1, 2], [4, 5]]) ∧ Ext w w' := by
  obtain ⟨L, h1, h2, h3⟩ := hw.of
  have h := lotsM_any 2 2 L otherX sv pv w hT h1 hp (by omega)
  rw [h2, wk_judgeE, wk_lots] at h
  exact h

theorem wMost (sv : Value) (w : World) (hT : TabM w) (hw : WkM sv w) : Calls Tryz.prog 14 #[valM 2 2 sv, .int .i64 4] w fun e w' => e = .returned (.tuple #[.int .i64 2, .int .i64 0]) ∧ Ext w w' := by
  obtain ⟨L, h1, h2, h3⟩ := hw.of
  have h := mostM_any 2 2 4 L sv w hT h1 (by omega)
  rw [h2, wk_most.1, wk_most.2] at h
  exact h

theorem wLost (sv : Value) (w : World) (hT : TabM w) (hw : WkM sv w) : Calls Tryz.prog 16 #[valM 2 2 sv, .int .i64 2] w fun e w' => e = .returned (.tuple #[.int .i64 3, .int .i64 10, .int .i64 0]) ∧ Ext w w' := by
  obtain ⟨L, h1, h2, h3⟩ := hw.of
  have h := withoutM_any 2 2 2 L sv w hT h1 h3
  rw [h2, wk_lost] at h
  exact h

theorem wNeeds (sv : Value) (w : World) (hT : TabM w) (hw : WkM sv w) : Calls Tryz.prog 18 #[valM 2 2 sv] w fun e w' => (∃ v, e = .returned (.tuple #[v, .int .i64 0]) ∧ SlI w' v [2, 3, 4, 5]) ∧ Ext w w' := by
  obtain ⟨L, h1, h2, h3⟩ := hw.of
  have h := needsM_any 2 2 L sv w hT h1 h3
  rw [h2, wk_bestE, wk_need] at h
  exact h

theorem wRun (sv : Value) (pv : Value) (w : World) (hT : TabM w) (hw : WkM sv w) (hp : SlI w pv otherX) : Calls Tryz.prog 38 #[valM 2 2 sv, pv] w fun e w' => (∃ v, e = .returned (.tuple #[v, .int .i64 13, .int .i64 0]) ∧ SlI w' v [1, 2]) ∧ Ext w w' := by
  obtain ⟨L, h1, h2, h3⟩ := hw.of
  have h := runM_any 2 2 L otherX sv pv w hT h1 hp (by omega)
  rw [h2, wk_judgeE, wk_run.1, wk_run.2] at h
  exact h

theorem wHelps (sv xv : Value) (b : Nat) (w : World) (hT : TabM w) (hw : WkM sv w) (hx : TwinR (cotX 7 31 90) b xv w) : Calls Tryz.prog 34 #[valM 2 2 sv, xv] w fun e w' => e = .returned (.tuple #[.int .i64 1, .int .i64 5, .int .i64 0]) ∧ Ext w w' := by
  obtain ⟨L, h1, h2, h3⟩ := hw.of
  obtain ⟨r, rfl, hr, ho⟩ := hx
  have h := helpsM_any 2 2 L r sv w hT h1 (ho.1.sl (fun _ => rfl)) (ho.2.sl (fun _ => rfl)) h3 (by rw [hr]; simp [cotX, baleX])
  rw [h2, hr, wk_helps] at h
  exact h
theorem lit_ints {W : World} (l : List Int) (cs : Array Value) (hcs : cs = (l.flatMap encI).toArray) (hl : l.length ≤ 1000) : SlI (W.alloc (.cells cs 3)) (.slice (some ⟨W.heap.size, 0, none⟩) l.length l.length) l :=
  Own.sl (enc := encI) (sz := 1) (fun _ => rfl) (Own.litM (enc := encI) (sz := 1) (e := 3) (base := W.heap.size) (fun _ => rfl) (Blk.new W 3 cs) hcs (Nat.le_refl _) hl)
/-- That the examples hold, wherever the tables stand. -/
def AliveM : Prop := ∀ w, TabM w → Calls Tryz.prog 22 #[] w fun e w' => e = .returned (.bool true) ∧ Ext w w'
set_option maxHeartbeats 8000000 in
theorem alive_anyM : AliveM := by
  intro w hT
  have HT := Lib.hid hT
  have E := Lib.hid (Ext.refl w)
  clear hT
  go_enter Tryz.func22, Tryz.ntmps22

  have OT := Lib.hid (lit_ints (W := w) [1, 1, 0, 2, 2, 0] #[.int .i64 1, .int .i64 1, .int .i64 0, .int .i64 2, .int .i64 2, .int .i64 0] rfl (by decide))

  replace E := Lib.hid (E.out.trans (Ext.al w (.cells #[.int .i64 1, .int .i64 1, .int .i64 0, .int .i64 2, .int .i64 2, .int .i64 0] 3)))

  go_wp2_with fail

  refine (works_any _).mono ?_
  rintro e w1 ⟨⟨sv, L, rfl, tl⟩, hE⟩

  replace E := Lib.hid (E.out.trans hE)

  replace OT := Lib.hid (OT.out.ext hE)

  have TV := Lib.hid (show WkM sv w1 from ⟨L, tl.mlc, tl.map⟩); clear tl hE

  go_wp2_with fail

  refine (wFit _ _ (HT.out.ext E.out) TV.out).mono ?_
  rintro e w2 ⟨⟨u1, rfl, hu⟩, hE⟩

  replace E := Lib.hid (E.out.trans hE)

  replace OT := Lib.hid (OT.out.ext hE)

  clear TV hE

  have LA := Lib.hid hu; clear hu

  go_wp2_with fail

  refine (works_any _).mono ?_
  rintro e w3 ⟨⟨sv, L, rfl, tl⟩, hE⟩

  replace E := Lib.hid (E.out.trans hE)

  replace OT := Lib.hid (OT.out.ext hE)

  replace LA := Lib.hid (LA.out.ext hE)

  have TV := Lib.hid (show WkM sv w3 from ⟨L, tl.mlc, tl.map⟩); clear tl hE

  go_wp2_with fail

  refine (wBest _ _ (HT.out.ext E.out) TV.out).mono ?_
  rintro e w4 ⟨⟨u2, rfl, hu⟩, hE⟩

  replace E := Lib.hid (E.out.trans hE)

  replace OT := Lib.hid (OT.out.ext hE)

  replace LA := Lib.hid (LA.out.ext hE)

  clear TV hE

  have LB := Lib.hid hu; clear hu

  go_wp2_with fail

  refine (works_any _).mono ?_
  rintro e w5 ⟨⟨sv, L, rfl, tl⟩, hE⟩

  replace E := Lib.hid (E.out.trans hE)

  replace OT := Lib.hid (OT.out.ext hE)

  replace LA := Lib.hid (LA.out.ext hE)

  replace LB := Lib.hid (LB.out.ext hE)

  have TV := Lib.hid (show WkM sv w5 from ⟨L, tl.mlc, tl.map⟩); clear tl hE

  go_wp2_with fail

  refine (wEven _ _ (HT.out.ext E.out) TV.out).mono ?_
  rintro e w6 ⟨rfl, hE⟩

  replace E := Lib.hid (E.out.trans hE)

  replace OT := Lib.hid (OT.out.ext hE)

  replace LA := Lib.hid (LA.out.ext hE)

  replace LB := Lib.hid (LB.out.ext hE)

  clear TV hE

  go_wp2_with fail

  refine (works_any _).mono ?_
  rintro e w7 ⟨⟨sv, L, rfl, tl⟩, hE⟩

  replace E := Lib.hid (E.out.trans hE)

  replace OT := Lib.hid (OT.out.ext hE)

  replace LA := Lib.hid (LA.out.ext hE)

  replace LB := Lib.hid (LB.out.ext hE)

  have TV := Lib.hid (show WkM sv w7 from ⟨L, tl.mlc, tl.map⟩); clear tl hE

  go_wp2_with fail

  refine (wJudge _ _ _ (HT.out.ext E.out) TV.out OT.out).mono ?_
  rintro e w8 ⟨rfl, hE⟩

  replace E := Lib.hid (E.out.trans hE)

  replace OT := Lib.hid (OT.out.ext hE)

  replace LA := Lib.hid (LA.out.ext hE)

  replace LB := Lib.hid (LB.out.ext hE)

  clear TV hE

  go_wp2_with fail

  refine (works_any _).mono ?_
  rintro e w9 ⟨⟨sv, L, rfl, tl⟩, hE⟩

  replace E := Lib.hid (E.out.trans hE)

  replace OT := Lib.hid (OT.out.ext hE)

  replace LA := Lib.hid (LA.out.ext hE)

  replace LB := Lib.hid (LB.out.ext hE)

  have TV := Lib.hid (show WkM sv w9 from ⟨L, tl.mlc, tl.map⟩); clear tl hE

  go_wp2_with fail

  refine (wSwap _ _ _ (HT.out.ext E.out) TV.out OT.out).mono ?_
  rintro e w10 ⟨rfl, hE⟩

  replace E := Lib.hid (E.out.trans hE)

  replace OT := Lib.hid (OT.out.ext hE)

  replace LA := Lib.hid (LA.out.ext hE)

  replace LB := Lib.hid (LB.out.ext hE)

  clear TV hE

  have S1 := Lib.hid (lit_ints (W := w10) [1, 2, 3, 4, 5] #[.int .i64 1, .int .i64 2, .int .i64 3, .int .i64 4, .int .i64 5] rfl (by decide))

  replace OT := Lib.hid (OT.out.ext (Ext.al w10 (.cells #[.int .i64 1, .int .i64 2, .int .i64 3, .int .i64 4, .int .i64 5] 3)))

  replace LA := Lib.hid (LA.out.ext (Ext.al w10 (.cells #[.int .i64 1, .int .i64 2, .int .i64 3, .int .i64 4, .int .i64 5] 3)))

  replace LB := Lib.hid (LB.out.ext (Ext.al w10 (.cells #[.int .i64 1, .int .i64 2, .int .i64 3, .int .i64 4, .int .i64 5] 3)))

  replace E := Lib.hid (E.out.trans (Ext.al w10 (.cells #[.int .i64 1, .int .i64 2, .int .i64 3, .int .i64 4, .int .i64 5] 3)))

  go_wp2_with fail

  refine (intsM_any [1, 2, 3, 4, 5] _ _ _ LA.out S1.out).mono ?_
  rintro e w11 ⟨rfl, hE⟩

  replace E := Lib.hid (E.out.trans hE)

  replace OT := Lib.hid (OT.out.ext hE)

  replace LA := Lib.hid (LA.out.ext hE)

  replace LB := Lib.hid (LB.out.ext hE)

  replace S1 := Lib.hid (S1.out.ext hE)

  clear hE S1 LA

  have S2 := Lib.hid (lit_ints (W := w11) [0, 1, 1, 2, 2, 0] #[.int .i64 0, .int .i64 1, .int .i64 1, .int .i64 2, .int .i64 2, .int .i64 0] rfl (by decide))

  replace OT := Lib.hid (OT.out.ext (Ext.al w11 (.cells #[.int .i64 0, .int .i64 1, .int .i64 1, .int .i64 2, .int .i64 2, .int .i64 0] 3)))

  replace LB := Lib.hid (LB.out.ext (Ext.al w11 (.cells #[.int .i64 0, .int .i64 1, .int .i64 1, .int .i64 2, .int .i64 2, .int .i64 0] 3)))

  replace E := Lib.hid (E.out.trans (Ext.al w11 (.cells #[.int .i64 0, .int .i64 1, .int .i64 1, .int .i64 2, .int .i64 2, .int .i64 0] 3)))

  go_wp2_with fail

  refine (intsM_any [0, 1, 1, 2, 2, 0] _ _ _ LB.out S2.out).mono ?_
  rintro e w12 ⟨rfl, hE⟩

  replace E := Lib.hid (E.out.trans hE)

  replace OT := Lib.hid (OT.out.ext hE)

  replace LB := Lib.hid (LB.out.ext hE)

  replace S2 := Lib.hid (S2.out.ext hE)

  clear hE S2 LB

  go_wp2_with fail

  refine (two_any 1 6 _).mono ?_
  rintro e w13 ⟨rfl, hE⟩

  replace E := Lib.hid (E.out.trans hE)

  replace OT := Lib.hid (OT.out.ext hE)

  clear hE

  go_wp2_with fail

  refine (two_any 2 5 _).mono ?_
  rintro e w14 ⟨rfl, hE⟩

  replace E := Lib.hid (E.out.trans hE)

  replace OT := Lib.hid (OT.out.ext hE)

  clear hE

  go_wp2_with fail

  refine (two_any 1 3 _).mono ?_
  rintro e w15 ⟨rfl, hE⟩

  replace E := Lib.hid (E.out.trans hE)

  replace OT := Lib.hid (OT.out.ext hE)

  clear hE

  -- CUT 1

  go_wp2_with fail

  refine (works_any _).mono ?_
  rintro e w16 ⟨⟨sv, L, rfl, tl⟩, hE⟩

  replace E := Lib.hid (E.out.trans hE)

  replace OT := Lib.hid (OT.out.ext hE)

  have TV := Lib.hid (show WkM sv w16 from ⟨L, tl.mlc, tl.map⟩); clear tl hE

  go_wp2_with fail

  refine (wLots _ _ _ (HT.out.ext E.out) TV.out OT.out).mono ?_
  rintro e w17 ⟨⟨u3, rfl, hu⟩, hE⟩

  replace E := Lib.hid (E.out.trans hE)

  replace OT := Lib.hid (OT.out.ext hE)

  clear TV hE

  have LL := Lib.hid hu; clear hu

  go_wp2_with fail

  refine (works_any _).mono ?_
  rintro e w18 ⟨⟨sv, L, rfl, tl⟩, hE⟩

  replace E := Lib.hid (E.out.trans hE)

  replace OT := Lib.hid (OT.out.ext hE)

  replace LL := Lib.hid (LL.out.ext hE)

  have TV := Lib.hid (show WkM sv w18 from ⟨L, tl.mlc, tl.map⟩); clear tl hE

  go_wp2_with fail

  refine (wMost _ _ (HT.out.ext E.out) TV.out).mono ?_
  rintro e w19 ⟨rfl, hE⟩

  replace E := Lib.hid (E.out.trans hE)

  replace OT := Lib.hid (OT.out.ext hE)

  replace LL := Lib.hid (LL.out.ext hE)

  clear TV hE

  go_wp2_with fail

  refine (works_any _).mono ?_
  rintro e w20 ⟨⟨sv, L, rfl, tl⟩, hE⟩

  replace E := Lib.hid (E.out.trans hE)

  replace OT := Lib.hid (OT.out.ext hE)

  replace LL := Lib.hid (LL.out.ext hE)

  have TV := Lib.hid (show WkM sv w20 from ⟨L, tl.mlc, tl.map⟩); clear tl hE

  go_wp2_with fail

  refine (cotX_any 7 31 90 _).mono ?_
  rintro e w21 ⟨⟨xv, rfl, hx⟩, hE⟩

  replace E := Lib.hid (E.out.trans hE)

  replace OT := Lib.hid (OT.out.ext hE)

  replace LL := Lib.hid (LL.out.ext hE)

  replace TV := Lib.hid (TV.out.ext hE); have HX := Lib.hid hx; clear hE hx

  go_wp2_with fail

  refine (wHelps _ _ _ _ (HT.out.ext E.out) TV.out HX.out).mono ?_
  rintro e w22 ⟨rfl, hE⟩

  replace E := Lib.hid (E.out.trans hE)

  replace OT := Lib.hid (OT.out.ext hE)

  replace LL := Lib.hid (LL.out.ext hE)

  clear hE TV HX

  go_wp2_with fail

  refine (works_any _).mono ?_
  rintro e w23 ⟨⟨sv, L, rfl, tl⟩, hE⟩

  replace E := Lib.hid (E.out.trans hE)

  replace OT := Lib.hid (OT.out.ext hE)

  replace LL := Lib.hid (LL.out.ext hE)

  have TV := Lib.hid (show WkM sv w23 from ⟨L, tl.mlc, tl.map⟩); clear tl hE

  go_wp2_with fail

  refine (wLost _ _ (HT.out.ext E.out) TV.out).mono ?_
  rintro e w24 ⟨rfl, hE⟩

  replace E := Lib.hid (E.out.trans hE)

  replace OT := Lib.hid (OT.out.ext hE)

  replace LL := Lib.hid (LL.out.ext hE)

  clear TV hE

  go_wp2_with fail

  refine (works_any _).mono ?_
  rintro e w25 ⟨⟨sv, L, rfl, tl⟩, hE⟩

  replace E := Lib.hid (E.out.trans hE)

  replace OT := Lib.hid (OT.out.ext hE)

  replace LL := Lib.hid (LL.out.ext hE)

  have TV := Lib.hid (show WkM sv w25 from ⟨L, tl.mlc, tl.map⟩); clear tl hE

  go_wp2_with fail

  refine (wNeeds _ _ (HT.out.ext E.out) TV.out).mono ?_
  rintro e w26 ⟨⟨u4, rfl, hu⟩, hE⟩

  replace E := Lib.hid (E.out.trans hE)

  replace OT := Lib.hid (OT.out.ext hE)

  replace LL := Lib.hid (LL.out.ext hE)

  clear TV hE

  have LN := Lib.hid hu; clear hu

  go_wp2_with fail

  refine (works_any _).mono ?_
  rintro e w27 ⟨⟨sv, L, rfl, tl⟩, hE⟩

  replace E := Lib.hid (E.out.trans hE)

  replace OT := Lib.hid (OT.out.ext hE)

  replace LL := Lib.hid (LL.out.ext hE)

  replace LN := Lib.hid (LN.out.ext hE)

  have TV := Lib.hid (show WkM sv w27 from ⟨L, tl.mlc, tl.map⟩); clear tl hE

  go_wp2_with fail

  refine (wRun _ _ _ (HT.out.ext E.out) TV.out OT.out).mono ?_
  rintro e w28 ⟨⟨u5, rfl, hu⟩, hE⟩

  replace E := Lib.hid (E.out.trans hE)

  replace OT := Lib.hid (OT.out.ext hE)

  replace LL := Lib.hid (LL.out.ext hE)

  replace LN := Lib.hid (LN.out.ext hE)

  clear TV hE

  have LR := Lib.hid hu; clear hu

  clear OT

  -- CUT 2

  have S3 := Lib.hid (lit_ints (W := w28) [1, 2] #[.int .i64 1, .int .i64 2] rfl (by decide))

  replace LL := Lib.hid (LL.out.ext (Ext.al w28 (.cells #[.int .i64 1, .int .i64 2] 3)))

  replace LN := Lib.hid (LN.out.ext (Ext.al w28 (.cells #[.int .i64 1, .int .i64 2] 3)))

  replace LR := Lib.hid (LR.out.ext (Ext.al w28 (.cells #[.int .i64 1, .int .i64 2] 3)))

  replace E := Lib.hid (E.out.trans (Ext.al w28 (.cells #[.int .i64 1, .int .i64 2] 3)))

  have S4 := Lib.hid (lit_ints (W := (w28.alloc (.cells #[.int .i64 1, .int .i64 2] 3))) [4, 5] #[.int .i64 4, .int .i64 5] rfl (by decide))

  replace LL := Lib.hid (LL.out.ext (Ext.al (w28.alloc (.cells #[.int .i64 1, .int .i64 2] 3)) (.cells #[.int .i64 4, .int .i64 5] 3)))

  replace LN := Lib.hid (LN.out.ext (Ext.al (w28.alloc (.cells #[.int .i64 1, .int .i64 2] 3)) (.cells #[.int .i64 4, .int .i64 5] 3)))

  replace LR := Lib.hid (LR.out.ext (Ext.al (w28.alloc (.cells #[.int .i64 1, .int .i64 2] 3)) (.cells #[.int .i64 4, .int .i64 5] 3)))

  replace S3 := Lib.hid (S3.out.ext (Ext.al (w28.alloc (.cells #[.int .i64 1, .int .i64 2] 3)) (.cells #[.int .i64 4, .int .i64 5] 3)))

  replace E := Lib.hid (E.out.trans (Ext.al (w28.alloc (.cells #[.int .i64 1, .int .i64 2] 3)) (.cells #[.int .i64 4, .int .i64 5] 3)))

  obtain ⟨wl, hwl⟩ : ∃ wl, wl = ((w28.alloc (.cells #[.int .i64 1, .int .i64 2] 3)).alloc (.cells #[.int .i64 4, .int .i64 5] 3)).alloc (.cells #[.slice (some ⟨w28.heap.size, 0, none⟩) 2 2, .slice (some ⟨w28.heap.size + 1, 0, none⟩) 2 2] 36) := ⟨_, rfl⟩
  have RL := Lib.hid (show RdLL wl (.slice (some ⟨w28.heap.size + 1 + 1, 0, none⟩) 2 2) [[1, 2], [4, 5]] by
    have h3 := S3.out; have h4 := S4.out
    rw [hwl]
    refine ⟨[(some ⟨w28.heap.size, 0, none⟩, 2, 2), (some ⟨w28.heap.size + 1, 0, none⟩, 2, 2)], ?_, rfl, fun i t l ht hl => ?_⟩
    · have := Own.sl (enc := encT) (sz := 1) (fun _ => rfl) (Own.litM (enc := encT) (sz := 1) (e := 36) (base := 0) (l := ([(some ⟨w28.heap.size, 0, none⟩, 2, 2), (some ⟨w28.heap.size + 1, 0, none⟩, 2, 2)] : List Tri)) (fun _ => rfl) (Blk.new ((w28.alloc (.cells #[.int .i64 1, .int .i64 2] 3)).alloc (.cells #[.int .i64 4, .int .i64 5] 3)) 36 _) rfl (Nat.zero_le _) (by simp))
      simpa using this
    · match i, ht, hl with
      | 0, ht, hl =>
        simp at ht hl
        subst ht hl
        exact h3.ext (Ext.al _ _)
      | 1, ht, hl =>
        simp at ht hl
        subst ht hl
        have h5 := h4.ext (Ext.al ((w28.alloc (.cells #[.int .i64 1, .int .i64 2] 3)).alloc (.cells #[.int .i64 4, .int .i64 5] 3)) (.cells #[.slice (some ⟨w28.heap.size, 0, none⟩) 2 2, .slice (some ⟨w28.heap.size + 1, 0, none⟩) 2 2] 36))
        simpa using h5
      | i + 2, ht, hl => simp at ht)

  replace E := Lib.hid (E.out.trans (show Ext ((w28.alloc (.cells #[.int .i64 1, .int .i64 2] 3)).alloc (.cells #[.int .i64 4, .int .i64 5] 3)) wl from hwl ▸ Ext.al _ _))

  replace LL := Lib.hid (LL.out.ext (show Ext ((w28.alloc (.cells #[.int .i64 1, .int .i64 2] 3)).alloc (.cells #[.int .i64 4, .int .i64 5] 3)) wl from hwl ▸ Ext.al _ _))

  replace LN := Lib.hid (LN.out.ext (show Ext ((w28.alloc (.cells #[.int .i64 1, .int .i64 2] 3)).alloc (.cells #[.int .i64 4, .int .i64 5] 3)) wl from hwl ▸ Ext.al _ _))

  replace LR := Lib.hid (LR.out.ext (show Ext ((w28.alloc (.cells #[.int .i64 1, .int .i64 2] 3)).alloc (.cells #[.int .i64 4, .int .i64 5] 3)) wl from hwl ▸ Ext.al _ _))

  replace S3 := Lib.hid (S3.out.ext (show Ext ((w28.alloc (.cells #[.int .i64 1, .int .i64 2] 3)).alloc (.cells #[.int .i64 4, .int .i64 5] 3)) wl from hwl ▸ Ext.al _ _))

  replace S4 := Lib.hid (S4.out.ext (show Ext ((w28.alloc (.cells #[.int .i64 1, .int .i64 2] 3)).alloc (.cells #[.int .i64 4, .int .i64 5] 3)) wl from hwl ▸ Ext.al _ _))

  clear S3 S4

  go_wp2_with fail

  rw [← hwl]

  refine (sameLists_any [[1, 2], [4, 5]] _ _ _ LL.out RL.out).mono ?_
  rintro e w29 ⟨rfl, hE⟩

  replace E := Lib.hid (E.out.trans hE)

  replace LL := Lib.hid (LL.out.ext hE)

  replace LN := Lib.hid (LN.out.ext hE)

  replace LR := Lib.hid (LR.out.ext hE)

  clear hE hwl RL LL

  go_wp2_with fail

  refine (two_any 1 5 _).mono ?_
  rintro e w30 ⟨rfl, hE⟩

  replace E := Lib.hid (E.out.trans hE)

  replace LN := Lib.hid (LN.out.ext hE)

  replace LR := Lib.hid (LR.out.ext hE)

  clear hE

  go_wp2_with fail

  refine (two_any 3 10 _).mono ?_
  rintro e w31 ⟨rfl, hE⟩

  replace E := Lib.hid (E.out.trans hE)

  replace LN := Lib.hid (LN.out.ext hE)

  replace LR := Lib.hid (LR.out.ext hE)

  clear hE

  have S5 := Lib.hid (lit_ints (W := w31) [2, 3, 4, 5] #[.int .i64 2, .int .i64 3, .int .i64 4, .int .i64 5] rfl (by decide))

  replace LN := Lib.hid (LN.out.ext (Ext.al w31 (.cells #[.int .i64 2, .int .i64 3, .int .i64 4, .int .i64 5] 3)))

  replace LR := Lib.hid (LR.out.ext (Ext.al w31 (.cells #[.int .i64 2, .int .i64 3, .int .i64 4, .int .i64 5] 3)))

  replace E := Lib.hid (E.out.trans (Ext.al w31 (.cells #[.int .i64 2, .int .i64 3, .int .i64 4, .int .i64 5] 3)))

  go_wp2_with fail

  refine (intsM_any [2, 3, 4, 5] _ _ _ LN.out S5.out).mono ?_
  rintro e w32 ⟨rfl, hE⟩

  replace E := Lib.hid (E.out.trans hE)

  replace LN := Lib.hid (LN.out.ext hE)

  replace LR := Lib.hid (LR.out.ext hE)

  replace S5 := Lib.hid (S5.out.ext hE)

  clear hE S5 LN

  have S6 := Lib.hid (lit_ints (W := w32) [1, 2] #[.int .i64 1, .int .i64 2] rfl (by decide))

  replace LR := Lib.hid (LR.out.ext (Ext.al w32 (.cells #[.int .i64 1, .int .i64 2] 3)))

  replace E := Lib.hid (E.out.trans (Ext.al w32 (.cells #[.int .i64 1, .int .i64 2] 3)))

  go_wp2_with fail

  refine (intsM_any [1, 2] _ _ _ LR.out S6.out).mono ?_
  rintro e w33 ⟨rfl, hE⟩

  replace E := Lib.hid (E.out.trans hE)

  replace LR := Lib.hid (LR.out.ext hE)

  replace S6 := Lib.hid (S6.out.ext hE)

  clear hE S6 LR

  go_wp2
  go_ret
  exact ⟨rfl, E.out⟩

end Go.Proofs.YtkpengeaolcjhaaGreatDoor
/- A plan that is chosen, bale by bale: plain. -/
namespace Go.Proofs.YtkpengeaolcjhaaGreatDoor
set_option linter.unusedSimpArgs false

theorem fitOk_at {p : List Int} {fit : List Bool} {k : Nat} {a : Int} {b : Bool} (h : fitOk p fit = true) (h1 : p[k]? = some a) (h2 : fit[k]? = some b) (h3 : 0 < a) : b = true := by
  cases b with
  | true => rfl
  | false => rw [fitOk_no h1 h2 h3 rfl] at h; cases h
/-- k bales of the lot are chosen, and all of the lots ahead of it. -/
structure ChP (m : Mll) (lt sz lot k : Nat) (p : List Int) : Prop where
  len : p.length = m.cots.length
  rng : ∀ x ∈ p, 0 ≤ x ∧ x ≤ (lt : Int)
  fit : fitOk p (fitL m) = true
  cnt : ∀ j : Nat, 1 ≤ j → inLot p (j : Int) = if j < lot then (sz : Int) else if j = lot then (k : Int) else 0
theorem ChP.start (m : Mll) (lt sz : Nat) : ChP m lt sz 1 0 (List.replicate m.cots.length 0) := by
  refine ⟨by simp, fun x hx => by rw [List.eq_of_mem_replicate hx]; omega, fitOk_yes fun k a b h1 _ h3 => ?_, fun j hj => ?_⟩
  · rw [List.getElem?_replicate] at h1
    split at h1
    · injection h1 with h1; omega
    · cases h1
  · rw [if_neg (by omega)]
    unfold inLot
    rw [List.filter_eq_nil_iff.2 fun x hx => by rw [List.eq_of_mem_replicate hx]; simp; omega]
    simp
theorem ChP.step {m : Mll} {lt sz lot k i : Nat} {p : List Int} (h : ChP m lt sz lot k p) (hl : lot ≤ lt) (h1 : 1 ≤ lot) (hp : p[i]? = some 0) (hf : (fitL m)[i]? = some true) : ChP m lt sz lot (k + 1) (p.set i (lot : Int)) := by
  refine ⟨by rw [List.length_set]; exact h.len, fun x hx => ?_, fitOk_yes fun j a b ha hb h0 => ?_, fun j hj => ?_⟩
  · rcases List.mem_or_eq_of_mem_set hx with hx | hx
    · exact h.rng x hx
    · omega
  · by_cases hij : i = j
    · subst hij
      rw [hf] at hb
      injection hb with hb
      exact hb.symm
    · rw [List.getElem?_set_ne hij] at ha
      exact fitOk_at h.fit ha hb h0
  · have e := inLot_set p i 0 (lot : Int) (j : Int) hp
    rw [if_neg (by omega), h.cnt j hj] at e
    by_cases hjl : j = lot
    · subst hjl
      rw [if_neg (Nat.lt_irrefl j), if_pos rfl] at e ⊢
      rw [if_pos rfl] at e
      omega
    · rw [if_neg (c := (lot : Int) = (j : Int)) (by omega)] at e
      rw [if_neg hjl] at e ⊢
      omega
theorem ChP.next {m : Mll} {lt sz lot : Nat} {p : List Int} (h : ChP m lt sz lot sz p) : ChP m lt sz (lot + 1) 0 p := by
  refine ⟨h.len, h.rng, h.fit, fun j hj => ?_⟩
  rw [h.cnt j hj]
  by_cases h1 : j < lot
  · rw [if_pos h1, if_pos (by omega)]
  · rw [if_neg h1]
    by_cases h2 : j = lot
    · rw [if_pos h2, if_pos (by omega)]
    · rw [if_neg h2, if_neg (by omega)]
      split <;> rfl
theorem ChP.done {m : Mll} {lt sz : Nat} {p : List Int} (hl : m.lots = (lt : Int)) (hs : m.size = (sz : Int)) (h : ChP m lt sz (lt + 1) 0 p) : okPlan m p = true := by
  refine okPlan_yes h.len (List.all_eq_true.2 fun x hx => inB_iff.2 (by have := h.rng x hx; omega)) h.fit ?_
  have hlt : m.lots.toNat = lt := by omega
  have hc : ∀ i : Nat, i < 3 → inLot p ((i : Int) + 1) = if i < lt then m.size else 0 := fun i hi => by
    have e := h.cnt (i + 1) (by omega)
    rw [show ((i + 1 : Nat) : Int) = (i : Int) + 1 by omega] at e
    rw [e, hs]
    by_cases h1 : i < lt
    · rw [if_pos (by omega), if_pos h1]
    · rw [if_neg (by omega), if_neg h1]
      split <;> rfl
  unfold fullF
  rw [hlt, show (List.range 3).map (fun i => if i < lt then m.size else 0) = [if 0 < lt then m.size else 0, if 1 < lt then m.size else 0, if 2 < lt then m.size else 0] from rfl]
  have a := hc 0 (by omega); have b := hc 1 (by omega); have c := hc 2 (by omega)
  rw [← a, ← b, ← c]
  rfl
theorem ChP.nz {m : Mll} {lt sz lot k : Nat} {p : List Int} (h : ChP m lt sz lot k p) (h1 : 1 ≤ lot) (h2 : lot ≤ lt) (h3 : lt ≤ 3) : nzP p = (lot - 1) * sz + k := by
  have e := nz_sum p fun x hx => by have := h.rng x hx; omega
  have a := h.cnt 1 (by omega); have b := h.cnt 2 (by omega); have c := h.cnt 3 (by omega)
  have a' : inLot p 1 = _ := a
  have b' : inLot p 2 = _ := b
  have c' : inLot p 3 = _ := c
  rw [a', b', c'] at e
  rcases (by omega : lot = 1 ∨ lot = 2 ∨ lot = 3) with rfl | rfl | rfl
  · simp at e; omega
  · simp at e; omega
  · simp at e; omega
/-- Who is fit and left. -/
def leftTo (p : List Int) (fit : List Bool) (k : Nat) : List Int := ((List.range k).filter fun i => fit[i]?.getD false && decide (p[i]?.getD 0 = 0)).map fun (i : Nat) => (i : Int)
theorem leftTo_succ {p : List Int} {fit : List Bool} {k : Nat} {a : Int} {b : Bool} (hp : p[k]? = some a) (hf : fit[k]? = some b) : leftTo p fit (k + 1) = leftTo p fit k ++ if b && decide (a = 0) then [(k : Int)] else [] := by
  unfold leftTo
  rw [List.range_succ, List.filter_append, List.map_append]
  congr 1
  by_cases h : (b && decide (a = 0)) = true
  · rw [if_pos h, List.filter_cons, if_pos (by rw [hp, hf]; exact h)]; rfl
  · rw [if_neg h, List.filter_cons, if_neg (by rw [hp, hf]; exact h)]; rfl
theorem leftTo_len (p : List Int) (fit : List Bool) (k : Nat) : (leftTo p fit k).length ≤ k := by
  unfold leftTo
  rw [List.length_map]
  exact Nat.le_trans (List.length_filter_le _ _) (by simp)
theorem leftTo_mem {p : List Int} {fit : List Bool} {n : Nat} {x : Int} (hp : p.length = n) (hf : fit.length = n) (h : x ∈ leftTo p fit n) : ∃ i : Nat, x = (i : Int) ∧ i < n ∧ p[i]? = some 0 ∧ fit[i]? = some true := by
  unfold leftTo at h
  obtain ⟨i, hi, rfl⟩ := List.mem_map.1 h
  obtain ⟨h1, h2⟩ := List.mem_filter.1 hi
  rw [List.mem_range] at h1
  rw [List.getElem?_eq_getElem (by omega : i < fit.length), List.getElem?_eq_getElem (by omega : i < p.length)] at h2
  simp at h2
  exact ⟨i, rfl, h1, by rw [List.getElem?_eq_getElem (by omega), h2.2], by rw [List.getElem?_eq_getElem (by omega), h2.1]⟩
theorem leftTo_nil {p : List Int} {fit : List Bool} {n : Nat} (hp : p.length = n) (h : leftTo p fit n = []) (i : Nat) (a : Int) (h1 : fit[i]? = some true) (h2 : p[i]? = some a) : a ≠ 0 := by
  rintro rfl
  have hi : i < n := by have := (List.getElem?_eq_some_iff.1 h2).1; omega
  have : (i : Int) ∈ leftTo p fit n := List.mem_map.2 ⟨i, List.mem_filter.2 ⟨List.mem_range.2 hi, by rw [h1, h2]; rfl⟩, rfl⟩
  rw [h] at this
  simp at this
end Go.Proofs.YtkpengeaolcjhaaGreatDoor
