/- What MillBound says: plain. -/
import Derived.Test.YtkpengeaolcjhaaGreatDoorPkMlBestCardT
import Derived.Test.YtkpengeaolcjhaaGreatDoorPkMlBestCardU
import Derived.Test.YtkpengeaolcjhaaGreatDoorPkMlBestCardS
import Derived.Test.YtkpengeaolcjhaaGreatDoorPkMlBestCardV
import Derived.ChangeKeysEq
import Derived.Test.YtkpengeaolcjhaaGreatDoorPkMlBestCardX
import Derived.Test.YtkpengeaolcjhaaGreatDoorPkMlBestCardY
namespace Go.Proofs.YtkpengeaolcjhaaGreatDoor
open Go.RowKit Go.Shelf Go.Lib
set_option maxRecDepth 100000
set_option linter.unusedSimpArgs false

theorem unev_pos (m : Mll) (p : List Int) : 0 ≤ (unev m p).1 := (farA_ge _ 0).1
theorem most_le {m : Mll} (hm : Mok m) {p : List Int} (h : bestP m = some p) {L : Int} (hL : (unev m p).1 ≤ L) : m.lots ≤ mostN m L := by
  have h1 := bound_le hm (sortedL_ok m).2 (sortedL_ok m).1 (bestP_mem h) hL
  have := hm.l1
  unfold mostN
  omega
theorem most_lt {m : Mll} (hm : Mok m) {p : List Int} (h : bestP m = some p) {L : Int} (h0 : 0 ≤ L) (hL : L < (unev m p).1) : mostN m L < m.lots := by
  have h3 := hm.l1
  by_cases hg : m.lots.toNat ≤ gr L m.size.toNat (sortedL m)
  · obtain ⟨q, hq, hq2⟩ := bound_ge hm h0 (sortedL_ok m).2 (sortedL_ok m).1 hg
    have h1 := (best_first h hq).1
    unfold lessU at h1
    simp only [Bool.or_eq_false_iff, decide_eq_false_iff_not] at h1
    omega
  · unfold mostN
    omega
theorem most_few {m : Mll} (hm : Mok m) (h : bestP m = none) {L : Int} (h0 : 0 ≤ L) : mostN m L < m.lots := by
  have h3 := hm.l1
  by_cases hg : m.lots.toNat ≤ gr L m.size.toNat (sortedL m)
  · obtain ⟨q, hq, -⟩ := bound_ge hm h0 (sortedL_ok m).2 (sortedL_ok m).1 hg
    rw [best_none.1 h] at hq
    simp at hq
  · unfold mostN
    omega
theorem unev_60 {m : Mll} (hm : Mok m) (p : List Int) : (unev m p).1 ≤ 60 := by
  refine farA_le _ 0 (by omega) fun l hl => ?_
  unfold lotsL at hl
  obtain ⟨i, -, rfl⟩ := List.mem_map.1 hl
  refine farL_le (by omega) fun x hx y hy => ?_
  have hb : ∀ z ∈ lensL m, 1 ≤ z ∧ z ≤ 60 := fun z hz => by
    unfold lensL at hz
    obtain ⟨c, hc, rfl⟩ := List.mem_map.1 hz
    exact hm.len c hc
  have h1 := hb x (lotL_mem hx)
  have h2 := hb y (lotL_mem hy)
  omega
/-! Counts. -/
def cntV (T : List Int) : List Value := (List.range 61).map fun (i : Nat) => Value.int .i64 ((T.count (i : Int) : Nat) : Int)
theorem cntV_len (T : List Int) : (cntV T).length = 61 := by simp [cntV]
theorem cntV_at (T : List Int) {j : Nat} (h : j < 61) : (cntV T)[j]? = some (Value.int .i64 ((T.count (j : Int) : Nat) : Int)) := by
  unfold cntV
  rw [List.getElem?_map, List.getElem?_range h]
  rfl
theorem cntV_nil : cntV [] = List.replicate 61 (.int .i64 0) := by kernel_rfl
theorem cntV_snoc (T : List Int) {j : Nat} (h : j < 61) : cntV (T ++ [(j : Int)]) = (cntV T).set j (Value.int .i64 ((T.count (j : Int) + 1 : Nat) : Int)) := by
  refine List.ext_getElem? fun k => ?_
  rw [List.getElem?_set]
  by_cases hk : k < 61
  · rw [cntV_at _ hk, cntV_at _ hk]
    by_cases e : j = k
    · subst e
      rw [if_pos rfl, if_pos (by rw [cntV_len]; exact h), List.count_append, List.count_singleton_self]
    · rw [if_neg e, List.count_append, List.count_singleton, if_neg (by simpa using fun e2 : (j : Int) = k => e (by omega))]
      rfl
  · rw [if_neg (by omega), List.getElem?_eq_none (by rw [cntV_len]; omega), List.getElem?_eq_none (by rw [cntV_len]; omega)]
/-- The list that the counts lay out, up to a length. -/
def outTo (T : List Int) (j : Nat) : List Int := (List.range j).flatMap fun (i : Nat) => List.replicate (T.count (i : Int)) (i : Int)
theorem outTo_succ (T : List Int) (j : Nat) : outTo T (j + 1) = outTo T j ++ List.replicate (T.count (j : Int)) (j : Int) := by
  unfold outTo
  rw [List.range_succ, List.flatMap_append]
  simp
theorem outTo_lt (T : List Int) : ∀ (j : Nat), ∀ x ∈ outTo T j, x < j
  | 0, x, h => by simp [outTo] at h
  | j + 1, x, h => by
    rw [outTo_succ] at h
    rcases List.mem_append.1 h with h | h
    · have := outTo_lt T j x h; omega
    · rw [(List.mem_replicate.1 h).2]; omega
theorem outTo_sorted (T : List Int) : ∀ (j : Nat), (outTo T j).Pairwise (· ≤ ·)
  | 0 => by simp [outTo]
  | j + 1 => by
    rw [outTo_succ, List.pairwise_append]
    refine ⟨outTo_sorted T j, List.pairwise_replicate.2 (.inr (Int.le_refl _)), fun a ha b hb => ?_⟩
    have := outTo_lt T j a ha
    rw [(List.mem_replicate.1 hb).2]; omega
theorem outTo_count (T : List Int) (x : Int) : ∀ (j : Nat), (outTo T j).count x = if 0 ≤ x ∧ x < j then T.count x else 0
  | 0 => by rw [if_neg (by omega)]; simp [outTo]
  | j + 1 => by
    rw [outTo_succ, List.count_append, outTo_count T x j, List.count_replicate]
    by_cases e : (j : Int) = x
    · have h1 : ¬ (0 ≤ x ∧ x < (j : Int)) := by omega
      have h2 : 0 ≤ x ∧ x < ((j + 1 : Nat) : Int) := by omega
      have h3 : ((j : Int) == x) = true := by simpa using e
      rw [if_neg h1, if_pos h2, if_pos h3, e, Nat.zero_add]
    · have h3 : ((j : Int) == x) = false := by simpa using e
      by_cases h : 0 ≤ x ∧ x < (j : Int)
      · have h2 : 0 ≤ x ∧ x < ((j + 1 : Nat) : Int) := by omega
        rw [if_pos h, if_pos h2, h3]
        simp
      · have h2 : ¬ (0 ≤ x ∧ x < ((j + 1 : Nat) : Int)) := by omega
        rw [if_neg h, if_neg h2, h3]
        simp
theorem outTo_perm {T : List Int} (h : ∀ x ∈ T, 0 ≤ x ∧ x < 61) : (outTo T 61).Perm T := by
  rw [List.perm_iff_count]
  intro x
  rw [outTo_count]
  split
  · rfl
  · rename_i hx
    exact (List.count_eq_zero.2 fun hm => hx (h x hm)).symm
theorem outTo_len (T : List Int) : ∀ j, j ≤ 61 → (∀ x ∈ T, 0 ≤ x ∧ x < 61) → (outTo T j).length ≤ T.length := fun j hj h => by
  have h1 := (outTo_perm h).length_eq
  rw [← h1]
  have e : outTo T 61 = outTo T j ++ (List.range' j (61 - j)).flatMap fun (i : Nat) => List.replicate (T.count (i : Int)) (i : Int) := by
    unfold outTo
    rw [← List.flatMap_append]
    congr 1
    have h := List.range'_append_1 (s := 0) (m := j) (n := 61 - j)
    rw [Nat.zero_add, show j + (61 - j) = 61 by omega] at h
    rw [List.range_eq_range', List.range_eq_range', h]
  rw [e, List.length_append]
  omega
theorem outTo_fit (m : Mll) (hm : Mok m) : outTo (fitLens m) 61 = sortedL m := by
  refine sorted_uniq ((outTo_perm fun x hx => ?_).trans (sortedL_ok m).2.symm) (outTo_sorted _ _) (sortedL_ok m).1
  unfold fitLens at hx
  obtain ⟨y, hy, rfl⟩ := List.mem_map.1 hx
  have := hm.len y (List.mem_filter.1 hy).1
  omega
theorem fitLen_take (l : List Cot) (k : Nat) : fitLen (l.take (k + 1)) = fitLen (l.take k) ++ (match l[k]? with | some x => if fitB x then [x.len] else [] | none => []) := by
  rw [List.take_add_one]
  cases l[k]? with
  | none => simp
  | some x => exact fitLen_snoc x _
/-- What the walk answers. -/
theorem bound_say {m : Mll} (hc : checkM m = true) {L : Int} (h0 : 0 ≤ L) :
    (∃ p, bestP m = some p ∧ (m.lots ≤ mostN m L ↔ (unev m p).1 ≤ L)) ∨ (bestP m = none ∧ mostN m L < m.lots) := by
  have hm := mok_of hc
  cases h : bestP m with
  | none => exact .inr ⟨rfl, most_few hm h h0⟩
  | some p =>
    refine .inl ⟨p, rfl, fun hg => ?_, fun hL => most_le hm h hL⟩
    by_cases hlt : L < (unev m p).1
    · have := most_lt hm h h0 hlt; omega
    · omega
theorem info55y : (Tryz.prog.info? 55).map (·.size) = some 61 := by kernel_rfl
theorem plain3b : Tryz.prog.plainKey 3 = true := by kernel_rfl
theorem run_index61 (W : World) {T : List Int} {j cc : Nat} (hj : j < 61) (hc : T.count (j : Int) = cc) : (Instr.index 55 (.agg (cntV T).toArray) (.int .i64 (j : Int))).run Tryz.prog W = .ok (.int .i64 (cc : Int)) W := by
  have hv : (cntV T).toArray[j]? = some (.int .i64 (cc : Int)) := by simp [cntV_at T hj, hc]
  have hp := run_part_plain (P := Tryz.prog) (w := W) plain3b hv
  have hz : (sizeOf 3).run Tryz.prog W = .ok 1 W := by
    have hi : (Tryz.prog.info? 3).map (·.size) = some 1 := by kernel_rfl
    cases hq : Tryz.prog.info? 3 with
    | none => simp [hq] at hi
    | some i =>
      have hs : i.size = 1 := by simpa [hq] using hi
      simp [sizeOf, typeInfo, hq, hs]
  have h1 : (0 : Int) ≤ (j : Int) := by omega
  have h2 : (j : Int) < 61 := by omega
  simp [Instr.index, run_underlying Tryz.underlying55, asIntOf, Sem.run_bind, h1, h2, hz, hp]
  intro h
  omega
theorem wpList_index61 {ops : Array Oper} {rest : List Oper} {o : Oper} {a : Act} {W : World} {Q : Exit → Act → World → Prop} (hgd : o.guard = none) (x i : Operand) (ho : o.op = .index 55 x i) (T : List Int) (j cc : Nat)
    (hx : a.eval x = .agg (cntV T).toArray) (hi : a.eval i = .int .i64 (j : Int)) (hj : j < 61) (hc : T.count (j : Int) = cc)
    (h : wpList Tryz.prog ops Q rest (a.put o.dst (.int .i64 (cc : Int))) W) : wpList Tryz.prog ops Q (o :: rest) a W :=
  wpList_plain hgd fun _ hK => by
    unfold Oper.wp execOp
    simp only [ho, hx, hi, Sem.run_bind, Sem.run_pure, Result.andThen_ok, run_index61 W hj hc]
    exact hK _ _ h
theorem modB_at {x : Int} {n : Nat} (h0 : 0 ≤ x) (hn : 0 < n) : ∃ i : Nat, i < n ∧ x.tmod (n : Int) = (i : Int) := by
  obtain ⟨k, rfl⟩ : ∃ k : Nat, x = (k : Int) := ⟨x.toNat, by omega⟩
  refine ⟨k % n, Nat.mod_lt _ hn, ?_⟩
  rw [Int.tmod_eq_emod_of_nonneg h0]
  omega
end Go.Proofs.YtkpengeaolcjhaaGreatDoor
/- The law MillBound: the walk; no plan. -/
namespace Go.Proofs.YtkpengeaolcjhaaGreatDoor
open Go.RowKit Go.Shelf Go.Lib
set_option maxRecDepth 100000
set_option linter.unusedSimpArgs false

set_option maxHeartbeats 32000000 in
theorem millBound_few (hA : AliveM) (lots size : Int) (x1 : Int) (l : List Rc) (sv : Value) (w : World) (hT : TabM w) (hs : MlC w sv l) (hx1 : 0 ≤ x1 ∧ x1 ≤ 255) (hbp : bestP (mOf lots size l) = none) :
    Calls Tryz.prog 5 #[valM lots size sv, .int .u8 x1] w fun e w' => e = .returned (.bool true) ∧ Ext w w' := by
  obtain ⟨hx10, hx15⟩ := hx1
  have HBP := Lib.hid hbp
  clear hbp
  have HS := Lib.hid hs; have HT := Lib.hid hT
  obtain ⟨A, n, c, rfl, hn, hlc, hcm⟩ := hs.1.form
  have HL := Lib.hid (show l.length = n from hn.out.symm)
  clear hs hT hn
  go_enter Tryz.func5, Tryz.ntmps5
  go_wp2_with fail
  have E0 := Lib.hid (Ext.al w (.cells #[.int .i64 lots, .int .i64 size, .slice A n c] 24))
  have B0 := Lib.hid (Blk.new w 24 #[.int .i64 lots, .int .i64 size, .slice A n c])
  refine (hA _ (HT.out.ext E0.out)).mono ?_
  rintro e w1 ⟨rfl, hE⟩
  have E1 := Lib.hid (E0.out.trans hE)
  have B1 := Lib.hid (B0.out.ext hE)
  clear hE E0 B0 hA
  obtain ⟨b0, b1, b2, bf, bl⟩ := B1.out.c3
  go_wp2_with fail
  refine (readyM_any lots size l _ _ (HS.out.ext E1.out)).mono ?_
  rintro e w2 ⟨rfl, hE⟩
  have E2 := Lib.hid (E1.out.trans hE)
  have B2 := Lib.hid (B1.out.ext hE)
  clear hE E1 B1 b0 b1 b2 bf bl
  obtain ⟨rd, hrd⟩ : ∃ rd, (!greatM l && checkM (mOf lots size l)) = rd := ⟨_, rfl⟩
  rw [hrd]
  cases rd with
  | false =>
    clear hrd
    go_wp2
    go_ret
    exact ⟨rfl, E2.out⟩
  | true =>
  rw [Bool.and_eq_true] at hrd
  have HG := Lib.hid (show greatM l = false by have h := hrd.1; revert h; cases greatM l <;> simp)
  have HC := Lib.hid hrd.2
  have HMO := Lib.hid (mok_of hrd.2)
  have HN7 := Lib.hid (show n ≤ 7 by have h := HMO.out.n7; simp at h; have := HL.out; omega)
  have HLN := Lib.hid (show l.length ≤ 900 by have := HN7.out; have := HL.out; omega)
  clear hrd
  obtain ⟨sz, hsz⟩ : ∃ sz : Nat, size = (sz : Int) := ⟨size.toNat, by have h : 2 ≤ size := HMO.out.s2; omega⟩
  subst hsz
  have hs2 : 2 ≤ sz := by have h : 2 ≤ (sz : Int) := HMO.out.s2; omega
  have hs4 : sz ≤ 4 := by have h : (sz : Int) ≤ 4 := HMO.out.s4; omega
  have hn7 : n ≤ 7 := HN7.out
  obtain ⟨iI, hiI, htI0⟩ := modB_at (x := x1) (n := 61) hx10 (by omega)
  have htI : x1.tmod 61 = (iI : Int) := htI0
  clear htI0
  have hx1w : IntKind.i64.wrap x1 = x1 := by rw [IntKind.wrap_i64]; omega
  have HMI := Lib.hid (most_ok (L := (iI : Int)) HC.out (by omega))
  obtain ⟨G, hG1, hG2⟩ : ∃ G, mostN (mOf lots sz l) (iI : Int) = (G : Nat) ∧ gr (iI : Int) sz (sortedL (mOf lots sz l)) = G := ⟨_, rfl, rfl⟩
  have HGN := Lib.hid (show mostN (mOf lots sz l) (iI : Int) = (G : Int) from hG1)
  have HG := Lib.hid hG2
  have HSAY := Lib.hid (bound_say (L := (iI : Int)) HC.out (by omega))
  clear hG1 hG2
  obtain ⟨b0, b1, b2, bf, bl⟩ := B2.out.c3
  go_wp2_with fail
  refine (fitted_any lots sz l _ _ (HT.out.ext E2.out) (HS.out.ext E2.out) HC.out).mono ?_
  rintro e w3 ⟨⟨fv, rfl, hfv⟩, hE⟩
  have E3 := Lib.hid (E2.out.trans hE)
  have B3 := Lib.hid (B2.out.ext hE)
  have F3 := Lib.hid (show SlBo w3 fv (fitL (mOf lots sz l)) from hfv.sl (fun _ => rfl))
  clear hE hfv E2 B2 b0 b1 b2 bf bl
  obtain ⟨b0, b1, b2, bf, bl⟩ := B3.out.c3
  go_wp2_with fail
  refine (evenM_any lots sz l _ _ (HT.out.ext E3.out) (HS.out.ext E3.out) (by have := HLN.out; omega)).mono ?_
  rintro e w4 ⟨rfl, hE⟩
  have E4 := Lib.hid (E3.out.trans hE)
  have B4 := Lib.hid (B3.out.ext hE)
  have F4 := Lib.hid (F3.out.ext hE)
  clear hE E3 B3 F3 b0 b1 b2 bf bl
  obtain ⟨Af, nf, cf, rfl, hnf, hlf, hcf⟩ := F4.out.form
  obtain rfl : n = nf := by have h1 := hnf.out; simp [fitL] at h1; have := HL.out; omega
  clear hnf
  rcases HSAY.out with ⟨p, hp, hq⟩ | ⟨hp, hq⟩
  · exact absurd (hp.symm.trans HBP.out) (by simp)
  · have HBE := Lib.hid (be_few HC.out hp)
    rw [HBE.out.1, HBE.out.2.2]
    have HQ := Lib.hid (show (G : Int) < lots by rw [← HGN.out]; exact hq)
    clear hp hq HBE HSAY
    obtain ⟨b0, b1, b2, bf, bl⟩ := B4.out.c3
    go_wp2_with fail
    refine (mostM_any lots sz (iI : Int) l _ _ (HT.out.ext E4.out) (HS.out.ext E4.out) (by have := HLN.out; omega)).mono ?_
    rintro e w8 ⟨rfl, hE⟩
    rw [HMI.out.1, HMI.out.2, HGN.out]
    have E8 := Lib.hid (E4.out.trans hE)
    have B8 := Lib.hid (B4.out.ext hE)
    have F8 := Lib.hid (F4.out.ext hE)
    clear hE E4 B4 F4 b0 b1 b2 bf bl
    obtain ⟨b0, b1, b2, bf, bl⟩ := B8.out.c3
    go_upto_region 21 with (fail)
    obtain ⟨w9, hw9⟩ : ∃ w9, w9 = w8.alloc (.cells (cntV []).toArray 55) := ⟨_, rfl⟩
    rw [cntV_nil] at hw9
    simp only [List.replicate] at hw9
    rw [← hw9]
    have K9 := Lib.hid (show Blk w9 w8.heap.size 55 (cntV []).toArray from by rw [hw9, cntV_nil]; exact Blk.new _ _ _)
    have E9 := Lib.hid (show Ext w8 w9 from hw9 ▸ Ext.al _ _)
    clear hw9 b0 b1 b2 bf bl
    obtain ⟨b0, b1, b2, bf, bl⟩ := (B8.out.ext E9.out).c3
    go_wp2
    clear b0 b1 b2 bf bl
    go_loopg [97] n (fun gg s97 wr => ∃ kk : Nat, kk ≤ n ∧ n - kk ≤ gg ∧ s97 = .int .i64 (kk : Int) ∧ Aside (Blk wr w8.heap.size 55 (cntV (fitLen ((l.take kk).map (·.c)))).toArray) ∧ Aside (Ext w8 wr))
    case atStart => exact ⟨0, by omega, by omega, by simp, K9.out, E9.out⟩
    case round =>
      obtain ⟨kk, hkk, hgg, rfl, KW, HW⟩ := hrel
      by_cases hlt : kk < n
      · have hltz : (kk : Int) < (n : Int) := by omega
        have hkz : (0 : Int) ≤ (kk : Int) := by omega
        obtain ⟨bi, offi, x, rfl, hx, hb, hcell⟩ := HS.out.1.at_ hlt
        obtain ⟨bq, offq, bo, rfl, hbo, -, hcb⟩ := F8.out.at_ hlt
        obtain ⟨c0, c1, c2, c3, c4, c5, c6, c7⟩ := SlC.cells hcell (E8.out.trans HW.out)
        have HFX := Lib.hid (show fitB x.c = bo by simp [fitL, (show l[kk]? = some x from hx)] at hbo; exact hbo)
        have HTK := Lib.hid (show fitLen ((l.take (kk + 1)).map (·.c)) = fitLen ((l.take kk).map (·.c)) ++ (if fitB x.c then [x.c.len] else []) by rw [List.take_add_one, hx, List.map_append]; exact fitLen_snoc _ _)
        have HLB := Lib.hid (show (fitLen ((l.take kk).map (·.c))).length < 100000 by
          have h1 := fitLen_le ((l.take kk).map (·.c))
          rw [List.length_map, List.length_take] at h1; omega)
        obtain ⟨ln, hln⟩ : ∃ ln : Nat, x.c.len = (ln : Int) := ⟨x.c.len.toNat, by have := HMO.out.len x.c (List.mem_map.2 ⟨x, List.mem_of_getElem? hx, rfl⟩); omega⟩
        have hl61 : ln < 61 := by have := HMO.out.len x.c (List.mem_map.2 ⟨x, List.mem_of_getElem? hx, rfl⟩); omega
        have hl61z : (ln : Int) < 61 := by omega
        have hl0 : (0 : Int) ≤ (ln : Int) := by omega
        rw [hln] at HTK c6
        have d0 := SlBo.cell hcb (HW.out.trans (Ext.al wr (.cells #[.int .i64 x.c.b.id, .int .i64 x.c.b.layers, .int .i64 x.c.b.dry.lo, .int .i64 x.c.b.dry.hi, .slice x.da x.dn x.dc, .slice x.wa x.wn x.wc, .int .i64 (ln : Int), .int .i64 x.c.str] 63)))
        generalize fitLen ((l.take kk).map (·.c)) = L0 at *
        obtain ⟨cc, hcc⟩ : ∃ cc : Nat, L0.count (ln : Int) = cc := ⟨_, rfl⟩
        have hcb2 : cc < 100000 := by have h := List.count_le_length (a := (ln : Int)) (l := L0); have := HLB.out; omega
        have hcw : IntKind.i64.wrap ((cc : Int) + 1) = ((cc + 1 : Nat) : Int) := by rw [show (cc : Int) + 1 = ((cc + 1 : Nat) : Int) by omega]; exact wrap_nat (by omega)
        have g0 : wr.cell? ⟨w8.heap.size, ln, none⟩ = some (.int .i64 (cc : Int)) := by rw [KW.out.cell ln]; simp [cntV_at L0 hl61, hcc]
        have g1 := KW.out.frozen
        have g2 := KW.out.lt
        have HCC := Lib.hid hcc
        clear hcell hx hbo hcb hcc
        cases bo with
        | false =>
          have HT2 := Lib.hid (show fitLen ((l.take (kk + 1)).map (·.c)) = L0 by rw [HTK.out, HFX.out]; simp)
          go_wp2
          go_roundg (n - (kk + 1))
          case measure => omega
          case rel => exact ⟨kk + 1, by omega, by omega, by simp, by rw [HT2.out]; exact KW.out.ext (Ext.al _ _), HW.out.alloc _⟩
        | true =>
          have HT2 := Lib.hid (show cntV (fitLen ((l.take (kk + 1)).map (·.c))) = (cntV L0).set ln (.int .i64 ((cc : Int) + 1)) by rw [HTK.out, HFX.out, if_pos rfl, cntV_snoc L0 hl61, HCC.out]; rfl)
          go_wp2
          go_roundg (n - (kk + 1))
          case measure => omega
          case rel =>
            refine ⟨kk + 1, by omega, by omega, by simp, ?_, (HW.out.setCell (by dsimp only; omega) _).alloc _⟩
            rw [HT2.out]
            have h := (KW.out.set_ ln (.int .i64 ((cc : Int) + 1))).alloc (.cells #[.int .i64 x.c.b.id, .int .i64 x.c.b.layers, .int .i64 x.c.b.dry.lo, .int .i64 x.c.b.dry.hi, .slice x.da x.dn x.dc, .slice x.wa x.wn x.wc, .int .i64 (ln : Int), .int .i64 x.c.str] 63)
            rw [List.setIfInBounds_toArray] at h
            exact h
      · have HE := Lib.hid (show kk = n by omega)
        have HTT := Lib.hid (show fitLen ((l.take kk).map (·.c)) = fitLens (mOf lots sz l) by rw [List.take_of_length_le (by have := HE.out; have := HL.out; omega)]; rfl)
        rw [HTT.out] at KW
        have HOF := Lib.hid (outTo_fit (mOf lots sz l) HMO.out)
        have HTL := Lib.hid (show (fitLens (mOf lots sz l)).length ≤ 7 by
          have h := fitLen_le (mOf lots sz l).cots
          have e : (mOf lots sz l).cots.length = n := by simp [HL.out]
          rw [e] at h
          exact Nat.le_trans h hn7)
        have HTB := Lib.hid (show ∀ x ∈ fitLens (mOf lots sz l), 0 ≤ x ∧ x < 61 from fun x hx => by
          unfold fitLens at hx
          obtain ⟨y, hy, rfl⟩ := List.mem_map.1 hx
          have := HMO.out.len y (List.mem_filter.1 hy).1
          omega)
        obtain ⟨T, hT⟩ : ∃ T, fitLens (mOf lots sz l) = T := ⟨_, rfl⟩
        rw [hT] at KW HOF HTL HTB
        have EA := Lib.hid (E8.out.trans HW.out)
        have BA := Lib.hid (B8.out.ext HW.out)
        clear HE HTT hT E8 B8 F8 K9 E9 HW
        have HOL := Lib.hid (fun j hj => outTo_len T j hj HTB.out)
        go_wp2_with (refine wpList_load_row rfl 55 (.tmp 16) rfl w8.heap.size rfl 55 (cntV T).toArray (0, 0) _ KW.out Tryz.underlying55 rfl (by rw [info55y]; simp [cntV_len]) ?_)
        rename World => wA
        go_loopg [19, 114] 61 (fun gg s19 s114 wr => ∃ j : Nat, j ≤ 61 ∧ 61 - j ≤ gg ∧ s114 = .int .i64 (j : Int) ∧ Aside (Own encI 3 1 wr wA.heap.size s19 (outTo T j)) ∧ Aside (Ext wA wr))
        case atStart => exact ⟨0, by omega, by omega, by simp, Own.nil _ _, Ext.refl _⟩
        case round =>
          obtain ⟨j, hj, hgg, rfl, OW, HW⟩ := hrel
          by_cases hj6 : j < 61
          · have hjz : (j : Int) < 61 := by omega
            have hj0 : (0 : Int) ≤ (j : Int) := by omega
            obtain ⟨cc, hcc⟩ : ∃ cc : Nat, T.count (j : Int) = cc := ⟨_, rfl⟩
            have HSU := Lib.hid (show outTo T (j + 1) = outTo T j ++ List.replicate cc (j : Int) by rw [outTo_succ, hcc])
            have HLJ := Lib.hid (show (outTo T j).length + cc ≤ 7 by
              have h := HOL.out (j + 1) (by omega)
              rw [HSU.out, List.length_append, List.length_replicate] at h
              have := HTL.out; omega)
            have hc7 : cc ≤ 7 := by have := HLJ.out; omega
            have HCO := Lib.hid hcc
            clear hcc
            go_wp2_with (refine wpList_index61 rfl (.tmp 113) (.tmp 114) rfl T j cc rfl rfl hj6 HCO.out ?_)
            go_loopg [19, 119] cc (fun gg s19 s119 wr => ∃ t : Nat, t ≤ cc ∧ cc - t ≤ gg ∧ s119 = .int .i64 (t : Int) ∧ Aside (Own encI 3 1 wr wA.heap.size s19 (outTo T j ++ List.replicate t (j : Int))) ∧ Aside (Ext wA wr))
            case atStart => exact ⟨0, by omega, by omega, by simp, by rw [List.replicate_zero, List.append_nil]; exact OW.out, HW.out⟩
            case round =>
              obtain ⟨t, ht, hgt, rfl, OT, ET⟩ := hrel
              by_cases htc : t < cc
              · have htz : (t : Int) < (cc : Int) := by omega
                have HLT := Lib.hid (show (outTo T j ++ List.replicate t (j : Int)).length < 100000000000 by rw [List.length_append, List.length_replicate]; have := HLJ.out; omega)
                have HRE := Lib.hid (show outTo T j ++ List.replicate (t + 1) (j : Int) = (outTo T j ++ List.replicate t (j : Int)) ++ [(j : Int)] by rw [List.replicate_succ', List.append_assoc])
                generalize outTo T j ++ List.replicate t (j : Int) = L0 at *
                go_wp2_with (at_builtin; refine wpList_app encI 36 3 1 _ 8 Tryz.underlying36 info3x rfl (by decide) (by decide) (fun _ => rfl) encI_one rfl (.tmp 121) (.tmp 123) rfl wA.heap.size _ L0 rfl (OT.out.alloc _) wr.heap.size 1 (j : Int) rfl (cells1 (by simp [go_sem])) HLT.out (by have := ET.out.size; simp; omega) ?_)
                intro g cap w' hown hg2 hbel _
                rw [← HRE.out] at hown
                have HO := Lib.hid hown
                have HBE := Lib.hid (show Ext wA w' from Below.trans (ET.out.alloc _) hbel)
                clear hown hbel
                go_wp2
                have htw : IntKind.i64.wrap ((t : Int) + 1) = (t : Int) + 1 := wrap_at (by omega) (by omega)
                go_roundg (cc - (t + 1))
                case measure => omega
                case rel => exact ⟨t + 1, by omega, by omega, by simp [htw], HO.out, HBE.out⟩
              · have htn : ¬ (t : Int) < (cc : Int) := by omega
                have HTC := Lib.hid (show t = cc by omega)
                go_wp2
                go_roundg (61 - (j + 1))
                case measure => omega
                case rel => exact ⟨j + 1, by omega, by omega, by simp, by rw [HSU.out, ← HTC.out]; exact OT.out, ET.out⟩
          · have HJE := Lib.hid (show j = 61 by omega)
            have hjn : ¬ (j : Int) < 61 := by omega
            rw [HJE.out, HOF.out] at OW
            have SW := Lib.hid (show SlI wr _ (sortedL (mOf lots sz l)) from OW.out.sl (enc := encI) (fun _ => rfl))
            have HSV := Lib.hid (show ∀ x ∈ sortedL (mOf lots sz l), 1 ≤ x ∧ x ≤ 60 from fun x hx => by
              have h := (sortedL_ok (mOf lots sz l)).2.mem_iff.1 hx
              unfold fitLens at h
              obtain ⟨y, hy, rfl⟩ := List.mem_map.1 h
              exact HMO.out.len y (List.mem_filter.1 hy).1)
            have HSL := Lib.hid (show (sortedL (mOf lots sz l)).length ≤ 7 by
              have h := HOL.out 61 (by omega)
              rw [HOF.out] at h
              have := HTL.out; omega)
            have EC := Lib.hid (EA.out.trans HW.out)
            have BC := Lib.hid (BA.out.ext HW.out)
            obtain ⟨S, hS⟩ : ∃ S, sortedL (mOf lots sz l) = S := ⟨_, rfl⟩
            rw [hS] at SW HSV HSL HG
            clear hS OW HW EA BA KW HOF
            obtain ⟨AS, r, cS, rfl, hr, hrc, hcm2⟩ := SW.out.form
            have HRL := Lib.hid (show S.length = r from hr.out.symm)
            have hr7 : r ≤ 7 := by have := HSL.out; have := HRL.out; omega
            clear hr
            go_wp2
            rename World => wC
            go_loopg [22, 23] 10 (fun gg s22 s23 wr => ∃ k i : Nat, s22 = .int .i64 (k : Int) ∧ s23 = .int .i64 (i : Int) ∧ i ≤ r ∧ r - i ≤ gg ∧ Aside (k + gr (iI : Int) sz (S.drop i) = G) ∧ Aside (Ext wC wr))
            case atStart => exact ⟨0, 0, by simp, by simp, by omega, by omega, by rw [Nat.zero_add, List.drop_zero]; exact HG.out, Ext.refl _⟩
            case round =>
              obtain ⟨k, i, rfl, rfl, hir, hgi, KR, EW⟩ := hrel
              have HK := Lib.hid (show k + gr (iI : Int) sz (S.drop i) ≤ 7 by
                have h1 := KR.out; have h2 := gr_le_len (iI : Int) sz (by omega) _ S (Nat.le_refl _); have := HSL.out; have := HG.out; omega)
              have hiw : IntKind.i64.wrap ((i : Int) + (sz : Int)) = (i : Int) + (sz : Int) := wrap_at (by omega) (by omega)
              have hi1 : IntKind.i64.wrap ((i : Int) + 1) = ((i + 1 : Nat) : Int) := by rw [show (i : Int) + 1 = ((i + 1 : Nat) : Int) by omega]; exact wrap_nat (by omega)
              have hk1 : IntKind.i64.wrap ((k : Int) + 1) = ((k + 1 : Nat) : Int) := by rw [show (k : Int) + 1 = ((k + 1 : Nat) : Int) by omega]; exact wrap_nat (by have := HK.out; omega)
              by_cases hle : i + sz ≤ r
              · have hlez : (i : Int) + (sz : Int) ≤ (r : Int) := by omega
                obtain ⟨q, hqz⟩ : ∃ q : Nat, q + 1 = i + sz := ⟨i + sz - 1, by omega⟩
                have HQZ := Lib.hid hqz
                have hzw : IntKind.i64.wrap ((i : Int) + (sz : Int) - 1) = (q : Int) := by rw [show (i : Int) + (sz : Int) - 1 = (q : Int) by omega]; exact wrap_nat (by omega)
                have hzr : q < r := by omega
                have hzrz : (q : Int) < (r : Int) := by omega
                have hzn : (0 : Int) ≤ (q : Int) := by omega
                clear hqz
                have hilt : i < r := by omega
                have hiltz : (i : Int) < (r : Int) := by omega
                have hi0 : (0 : Int) ≤ (i : Int) := by omega
                obtain ⟨b, off, y, rfl, hy, hbl, hcy⟩ := SW.out.at_ hzr
                obtain ⟨b', off', x, e2, hx, -, hcx⟩ := SW.out.at_ hilt
                injection e2 with e2
                injection e2 with e21 e22
                subst e21 e22
                have c0 := fun W' (h : Ext wr W') => SlI.cell hcy (EW.out.trans h)
                have c1 := fun W' (h : Ext wr W') => SlI.cell hcx (EW.out.trans h)
                obtain ⟨hy0, hy9⟩ := HSV.out y (List.mem_of_getElem? hy)
                obtain ⟨hx0, hx9⟩ := HSV.out x (List.mem_of_getElem? hx)
                have hyw : IntKind.i64.wrap (y - x) = y - x := by rw [IntKind.wrap_i64]; omega
                have HRD := Lib.hid (show S.drop i = x :: S.drop (i + 1) from drop_at hx)
                have HWIN := Lib.hid (show win (iI : Int) sz (S.drop i) = decide (y - x ≤ (iI : Int)) by
                  unfold win
                  rw [decide_eq_true (by rw [List.length_drop]; have := HRL.out; omega), List.getElem?_drop, List.getElem?_drop, show i + (sz - 1) = q by have := HQZ.out; omega, hy, Nat.add_zero, hx]
                  rfl)
                have HGR := Lib.hid (show gr (iI : Int) sz (S.drop i) = if win (iI : Int) sz (S.drop i) then 1 + gr (iI : Int) sz (S.drop (i + sz)) else gr (iI : Int) sz (S.drop (i + 1)) by
                  rw [HRD.out, gr_cons, List.drop_drop, ← HRD.out, show i + 1 + (sz - 1) = i + sz by omega])
                clear hx hy hcx hcy
                have m1 := fun W' (h : Ext wr W') => ((BC.out.ext (EW.out.trans h)).c3).2.1
                have m2 := ((BC.out.ext EW.out).c3).2.1
                cases hyl : decide (y - x ≤ (iI : Int)) with
                | true =>
                  have hyx : y - x ≤ (iI : Int) := of_decide_eq_true hyl
                  have HKR := Lib.hid (show (k + 1) + gr (iI : Int) sz (S.drop (i + sz)) = G by rw [← KR.out, HGR.out, HWIN.out, hyl, if_pos rfl]; omega)
                  clear hyl
                  go_wp2
                  refine wp_region_tame (fun W => Ext wr W) (fun W W' => Ext W W') (by kernel_rfl) 191 rfl (by decide +kernel) (Ext.refl _).drew ?_
                  repeat (apply tame_q rfl; (intro ρ W hC hr hD; (obtain ⟨hrc, hrg, hrf, hrs⟩ := hr); (simp [go_sem] at hD); go_simp; first | exact ⟨⟨hC, Ext.refl _⟩, rfl⟩ | exact ⟨⟨hC, RS.refl _⟩, rfl⟩ | exact rfl); simp only [List.nil_append, List.cons_append])
                  refine tame_end 191 rfl rfl (fun ρ W' hC hr hF => ?_)
                  obtain ⟨hrc', hrg, hrf, hrs⟩ := hr
                  simp [go_sem] at hF
                  apply frame_to
                  · simp (maxSteps := 4000000) [go_sem, hF, hrs]
                    exact rfl
                  have EW2 := Lib.hid (EW.out.trans hC)
                  have m3 := ((BC.out.ext EW2.out).c3).2.1
                  clear hF hrs hrc' hrg hrf hC c0 c1 m1 m2
                  go_wp2
                  go_roundg (r - (i + sz))
                  case measure => omega
                  case rel => exact ⟨k + 1, i + sz, by first | rfl | simp [hk1], by first | rfl | simp [hiw], by omega, by omega, HKR.out, EW2.out⟩
                | false =>
                  have hyx : ¬ y - x ≤ (iI : Int) := of_decide_eq_false hyl
                  have HKR := Lib.hid (show k + gr (iI : Int) sz (S.drop (i + 1)) = G by rw [← KR.out, HGR.out, HWIN.out, hyl, if_neg (by simp)])
                  clear hyl
                  go_wp2
                  refine wp_region_tame (fun W => Ext wr W) (fun W W' => Ext W W') (by kernel_rfl) 191 rfl (by decide +kernel) (Ext.refl _).drew ?_
                  repeat (apply tame_q rfl; (intro ρ W hC hr hD; (obtain ⟨hrc, hrg, hrf, hrs⟩ := hr); (simp [go_sem] at hD); go_simp; first | exact ⟨⟨hC, Ext.refl _⟩, rfl⟩ | exact ⟨⟨hC, RS.refl _⟩, rfl⟩ | exact rfl); simp only [List.nil_append, List.cons_append])
                  refine tame_end 191 rfl rfl (fun ρ W' hC hr hF => ?_)
                  obtain ⟨hrc', hrg, hrf, hrs⟩ := hr
                  simp [go_sem] at hF
                  apply frame_to
                  · simp (maxSteps := 4000000) [go_sem, hF, hrs]
                    exact rfl
                  have EW2 := Lib.hid (EW.out.trans hC)
                  have m3 := ((BC.out.ext EW2.out).c3).2.1
                  clear hF hrs hrc' hrg hrf hC c0 c1 m1 m2
                  go_wp2
                  go_roundg (r - (i + 1))
                  case measure => omega
                  case rel => exact ⟨k, i + 1, rfl, by first | rfl | simp [hi1], by omega, by omega, HKR.out, EW2.out⟩
              · have hlez : ¬ (i : Int) + (sz : Int) ≤ (r : Int) := by omega
                have HKF := Lib.hid (show k = G by have h := KR.out; rw [gr_short (iI : Int) sz (S.drop i) (by rw [List.length_drop]; have := HRL.out; omega)] at h; omega)
                obtain ⟨b0, b1, b2, bf, bl⟩ := (BC.out.ext EW.out).c3
                have HEE := Lib.hid (EC.out.trans EW.out)
                obtain rfl := HKF.out
                have hq : (k : Int) < lots := HQ.out
                have hq2 : ¬ lots ≤ (k : Int) := by omega
                go_wp2
                go_ret
                exact ⟨rfl, HEE.out⟩
end Go.Proofs.YtkpengeaolcjhaaGreatDoor
