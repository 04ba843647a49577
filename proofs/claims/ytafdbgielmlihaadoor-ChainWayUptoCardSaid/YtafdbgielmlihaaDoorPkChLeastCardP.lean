/- Worst: the program's. -/
import Derived.Test.YtafdbgielmlihaaDoorPkChLeastCardM
import Derived.Test.YtafdbgielmlihaaDoorPkChLeastCardO
import Derived.Laws.Cover1
import Derived.Test.YtafdbgielmlihaaDoorPkChLeastCardE
namespace Go.Proofs.YtafdbgielmlihaaDoor
open Go.RowKit Go.Shelf Go.Lib
set_option maxRecDepth 100000
set_option linter.unusedSimpArgs false
attribute [local go_sem] Oper.semAt_some

theorem worst2_any (x y : Int × Int) (w : World) : Calls Tryd.prog 98 #[valLo x, valLo y] w fun e w' => e = .returned (.int .i64 (cmpI y.2 x.2)) ∧ Ext w w' := by
  go_enter Tryd.func98, Tryd.ntmps98
  go_wp2_with fail
  refine (compare_any y.2 x.2 _).mono ?_
  rintro e w2 ⟨rfl, hE⟩
  have E2 := Lib.hid (((Ext.al w _).alloc _).trans hE)
  clear hE
  go_wp2
  go_ret
  exact ⟨rfl, E2.out⟩
def lossTo (c : Chn) (s : Span) (k : Nat) : List (Int × Int) := (c.houses.take k).map fun h => (h, hiI (losesAll c h s))
theorem lossTo_succ {c : Chn} {s : Span} {k : Nat} {h : Int} (hh : c.houses[k]? = some h) : lossTo c s (k + 1) = lossTo c s k ++ [(h, hiI (losesAll c h s))] := by
  unfold lossTo
  rw [List.take_add_one, hh, List.map_append]
  rfl
theorem lossTo_pre {c : Chn} {s : Span} {k n : Nat} (h : k ≤ n) : lossTo c s k <+: lossTo c s n := by
  unfold lossTo
  rw [show k = min k n by omega, ← List.take_take]
  exact (List.take_prefix _ _).map _
theorem losesE_zero {c : Chn} {st : Int} {s : Span} (hc : checkP c = true) (hp : pricedB s = true) (hm : st ∈ c.houses) : losesE c st s = 0 := by
  unfold losesE
  rw [hc, hp, hasI_iff.2 hm]
  rfl
set_option maxHeartbeats 8000000 in
theorem worst1_seqs {c : Chn} {s : Span} {b1 b2 n cp n2 cp2 : Nat} {A A2 : Option Addr} {X : Nat → Prop} {w : World} (hc : checkP c = true) (hp : pricedB s = true) (hT : Tab w) (hB1 : Blk w b1 25 #[.slice A n cp, .slice A2 n2 cp2]) (hB2 : Blk w b2 48 #[.int .i64 s.lo, .int .i64 s.hi]) (hh : SlI w (.slice A n cp) c.houses) (hs : SlL w (.slice A2 n2 cp2) c.sales) :
    Seqs Tryd.prog 97 #[.pointer (some ⟨b1, 0, none⟩), .pointer (some ⟨b2, 0, none⟩)] w.heap.size X (fun (x : Int × Int) v _ => v = valLo x) (lossTo c s n) w := by
  intro l J Jx W0 hE hJ hJx hY h0
  obtain ⟨A', n', cp', e1, hn, hlc, hcm⟩ := hh.form
  injection e1 with e1 e2 e3
  subst e1 e2 e3
  have HR := Lib.hid (check_right hc).1; have HN := Lib.hid (check_right hc).2
  have HC := Lib.hid hc; have HP := Lib.hid hp; have HT := Lib.hid hT; have HB1 := Lib.hid hB1; have HB2 := Lib.hid hB2; have HH := Lib.hid hh; have HS := Lib.hid hs
  have HY := Lib.hid hY; have HJ := Lib.hid hJ; have HJX := Lib.hid hJx; have H0 := Lib.hid h0; have E0 := Lib.hid hE
  have hz0 := hE.size
  have hn6 : n ≤ 6 := by have := HR.out.h6; have := hn.out; omega
  obtain ⟨b0, b0', bf, bl⟩ := (hB1.ext hE).c2
  clear hc hp hT hB1 hB2 hh hs hY hJ hJx h0 hE
  go_enter Tryd.func97, Tryd.ntmps97
  go_wp2
  clear b0 b0' bf bl
  refine wp_loop_ghost_k (fun g A' W => ∃ (kk : Nat), kk ≤ n ∧ n - kk ≤ g ∧ Fr 43 [(0, .func (.yield l) #[] #[]), (1, .pointer (some ⟨b1, 0, none⟩)), (2, .pointer (some ⟨b2, 0, none⟩)), (12, .slice A n cp), (13, .int .i64 (n : Int)), (14, .int .i64 (kk : Int))] [] A' ∧
    Keep w.heap.size X W0 W ∧ J (lossTo c s kk) W) n ?_ ?_
  · exact ⟨0, by omega, by omega, ⟨rfl, rfl, by simp [Act.eval]⟩, Keep.refl _, by simpa [lossTo] using H0.out⟩
  · rintro g A' U ⟨kk, hkk, hg, hF, hK, hJK⟩ J2 K' hJ2 hK'
    have HJ2 := Lib.hid hJ2; have HK := Lib.hid hK; have HJK := Lib.hid hJK
    have EU := Lib.hid (show Ext w U from Below.trans E0.out hK.b)
    have hzU := EU.out.size
    obtain ⟨ρ, rfl, hρ⟩ := hF.open_
    simp only [List.forall_mem_cons] at hρ
    obtain ⟨r0, r1, r2, r12, r13, r14, -⟩ := hρ
    simp only [lst, Nat.reduceAdd, r0, r1, r2, r12, r13, r14]
    clear r0 r1 r2 r12 r13 r14 hF hK hJK hJ2
    by_cases hlt : kk < n
    · have hltz : (kk : Int) < (n : Int) := by omega
      obtain ⟨b9, off9, id, rfl, hx, -, hcell⟩ := (HH.out.ext EU.out).at_ hlt
      have c9 := SlI.cell hcell (Ext.refl _)
      have HLS := Lib.hid (lossTo_succ (s := s) hx)
      have HPR := Lib.hid (lossTo_pre (c := c) (s := s) (show kk + 1 ≤ n from hlt))
      have HID := Lib.hid (List.mem_of_getElem? hx)
      have HLE := Lib.hid (losesE_zero HC.out HP.out HID.out)
      obtain ⟨x0, x1, xf, xl⟩ := (HB1.out.ext EU.out).c2
      obtain ⟨y0, y1, yf, yl⟩ := (HB2.out.ext EU.out).c2
      clear hx hcell
      go_wp2_with fail
      refine (loses_any c id s _ _ U (HT.out.ext EU.out) (HH.out.ext EU.out) (HS.out.ext EU.out) (by have := HN.out; omega)).mono ?_
      rintro e W1 ⟨⟨v, rfl, hv⟩, hE⟩
      have hzW1 := hE.size
      have KE := Lib.hid (HK.out.trans (Keep.ext hE hzU)); have JE := Lib.hid (HJ.out _ _ _ HJK.out hE)
      rw [show losesL c id s = losesAll c id s by unfold losesL; rw [if_pos HLE.out]] at hv
      obtain ⟨Av, nv, cv, rfl, hnv, -, -⟩ := hv.form
      have HV := Lib.hid hv
      have hnvn : nv = n := by have := hnv.out; unfold losesAll at this; rw [List.length_map] at this; have := hn.out; omega
      subst hnvn
      obtain ⟨L, hL⟩ : ∃ L, losesAll c id s = L := ⟨_, rfl⟩
      have HBD := Lib.hid (show ∀ x ∈ L, 0 ≤ x.hi ∧ x.hi ≤ 90000000 from fun x hx => by
        rw [← hL] at hx
        obtain ⟨h, -, rfl⟩ := List.mem_map.1 hx
        exact loseS_bd HR.out HN.out HP.out)
      have HLL := Lib.hid (show L.length = nv by rw [← hL]; exact hnv.out.symm)
      rw [hL] at HLS HV
      clear hv hE x0 x1 xf xl y0 y1 yf yl c9 hL
      go_wp2
      refine wp_loop_ghost_k (fun g A' V => ∃ (k : Nat), k ≤ nv ∧ nv - k ≤ g ∧ Fr 43 [(0, .func (.yield l) #[] #[]), (1, .pointer (some ⟨b1, 0, none⟩)), (2, .pointer (some ⟨b2, 0, none⟩)), (5, .int .i64 id), (6, .int .i64 (hiTo L k)), (12, .slice (some ⟨b9, off9, none⟩) nv cp), (13, .int .i64 (nv : Int)), (14, .int .i64 (kk : Int)), (25, .slice Av nv cv), (26, .int .i64 (nv : Int)), (27, .int .i64 (k : Int))] [] A' ∧
        Ext W1 V) nv ?_ ?_
      · exact ⟨0, by omega, by omega, ⟨rfl, rfl, by simp [Act.eval, hiTo]⟩, Ext.refl _⟩
      · rintro g2 A2' V ⟨k, hk, hg2, hF, hE⟩ J3 K3 hJ3 hK3
        have HJ3 := Lib.hid hJ3; have EV := Lib.hid hE
        obtain ⟨ρ, rfl, hρ⟩ := hF.open_
        simp only [List.forall_mem_cons] at hρ
        obtain ⟨r0, r1, r2, r5, r6, r12, r13, r14, r25, r26, r27, -⟩ := hρ
        simp only [lst, Nat.reduceAdd, r0, r1, r2, r5, r6, r12, r13, r14, r25, r26, r27]
        clear r0 r1 r2 r5 r6 r12 r13 r14 r25 r26 r27 hF hE hJ3
        have hbd := hiTo_bd (by decide) HBD.out k
        by_cases hlk : k < nv
        · have hlkz : (k : Int) < (nv : Int) := by omega
          obtain ⟨bs, os, x, rfl, hx, -, hcell⟩ := HV.out.at_ hlk
          obtain ⟨z0, z1⟩ := SlS.cells hcell EV.out
          have hst := hiTo_succ hx
          have hxb := HBD.out x (List.mem_of_getElem? hx)
          have hw1 : IntKind.i64.wrap (hiTo L k + x.hi) = hiTo L (k + 1) := by rw [hst, IntKind.wrap_i64]; omega
          clear hx hcell hst
          go_wp2
          exact Handed.intro (nv - (k + 1)) (by omega) (HJ3.out _ _ _ ⟨k + 1, by omega, Nat.le_refl _, ⟨rfl, rfl, by simp [Act.eval]⟩, EV.out.alloc _⟩)
        · have HE := Lib.hid (show k = nv by omega)
          have HHI := Lib.hid (show hiTo L k = hiI L by unfold hiI; rw [HE.out, HLL.out])
          rw [HHI.out]
          have hzV := EV.out.size
          have KV := Lib.hid (KE.out.trans (Keep.ext EV.out (by omega))); have JV := Lib.hid (HJ.out _ _ _ JE.out EV.out)
          have HS1 := Lib.hid (HLS.out ▸ HPR.out)
          obtain ⟨fn, tmps, assign, body, hy, hR⟩ := HY.out 0 _ (id, hiI L) _ _ JV.out rfl HS1.out
          go_upto_region 10 with (fail)
          refine (wpIn_wide (n := 1)).1 ?_
          gi_wp2_with ((try refine ⟨wide_depth _, ?_⟩); refine hR.mono ?_; clear hR; rintro e W3 (⟨rfl, hJ3, hk3⟩ | ⟨rfl, hx⟩))
          · have KW3 := Lib.hid (KV.out.trans hk3); have JW3 := Lib.hid hJ3
            clear hJ3 hk3
            go_wp2
            exact Handed.intro (nv - (kk + 1)) (by omega) (HJ2.out _ _ _ ⟨kk + 1, by omega, Nat.le_refl _, ⟨rfl, rfl, by simp [Act.eval]⟩, KW3.out, by rw [HLS.out]; exact JW3.out⟩)
          · go_wp2
            refine bodyPost_ret (results_none rfl _ _ _) rfl ?_
            exact ⟨⟨_, rfl⟩, .inr ⟨_, HS1.out, hx⟩⟩
    · have HE := Lib.hid (show kk = n by omega)
      go_wp2
      go_end0
      exact ⟨⟨_, rfl⟩, .inl (by have := HJK.out; rwa [HE.out] at this)⟩
end Go.Proofs.YtafdbgielmlihaaDoor
/- Worst: the program's, whole. -/
namespace Go.Proofs.YtafdbgielmlihaaDoor
open Go.RowKit Go.Shelf Go.Lib
set_option maxRecDepth 100000
set_option linter.unusedSimpArgs false

theorem cmpI_lt0 {a b : Int} : cmpI a b < 0 ↔ a < b := by
  unfold cmpI
  split
  · simp [*]
  · split <;> simp <;> omega
theorem first_worst {c : Chn} {s : Span} (hR : Right c) (hN : c.sales.length ≤ 10) (hp : pricedB s = true) : ∀ k, k ≤ c.houses.length → firstO (fun x y : Int × Int => cmpI y.2 x.2) (lossTo c s k) = if k = 0 then none else some (worstTo c s k)
  | 0, _ => by simp [lossTo, firstO]
  | k + 1, hk => by
    have ih := first_worst hR hN hp k (by omega)
    have hh := List.getElem?_eq_getElem (l := c.houses) (i := k) (by omega)
    rw [lossTo_succ hh, firstO_snoc, ih, worstTo_succ hh, if_neg (c := k + 1 = 0) (by omega)]
    have h0 := (hiI_bd (c := c) (st := c.houses[k]'(by omega)) (s := s) hR hN hp).1
    by_cases e : k = 0
    · subst e
      rw [if_pos rfl, if_pos (by simp only [worstTo]; omega)]
      rfl
    · rw [if_neg e]
      simp only [firstS]
      by_cases h : (worstTo c s k).2 < hiI (losesAll c (c.houses[k]'(by omega)) s)
      · rw [if_pos (cmpI_lt0.2 h), if_pos h]
      · rw [if_neg (fun h' => h (cmpI_lt0.1 h')), if_neg h]
/-- A house, pence, and an error. -/
def WorstQ (p : Int × Int) (E : Int) (w : World) (e : Ending) (w' : World) : Prop := e = .returned (.tuple #[.int .i64 p.1, .int .i64 p.2, .int .i64 E]) ∧ Ext w w'
theorem worst_nil {c : Chn} {s : Span} {E : Int} (h : worstE c s = E) (h0 : E ≠ 0) : worstP c s = (0, 0) := by
  unfold worstP
  rw [if_neg (by rw [h]; exact h0)]
set_option maxHeartbeats 4000000 in
theorem worst_any (c : Chn) (s : Span) (hv sv : Value) (w : World) (hT : Tab w) (hh : SlI w hv c.houses) (hs : SlL w sv c.sales) (hl : c.sales.length ≤ 1000) :
    Calls Tryd.prog 41 #[valC hv sv, valSp s] w (WorstQ (worstP c s) (worstE c s) w) := by
  have HT := Lib.hid hT; have HH := Lib.hid hh; have HS := Lib.hid hs; have HL := Lib.hid hl
  obtain ⟨A, n, cp, rfl, hn, hlc, hcm⟩ := hh.form
  obtain ⟨A2, n2, cp2, rfl, hn2, hlc2, hcm2⟩ := hs.form
  obtain ⟨w0, hw0⟩ : ∃ w0, w0 = (w.alloc (.cells #[.slice A n cp, .slice A2 n2 cp2] 25)).alloc (.cells #[.int .i64 s.lo, .int .i64 s.hi] 48) := ⟨_, rfl⟩
  have E0 := Lib.hid (show Ext w w0 from hw0 ▸ (Ext.al _ _).alloc _)
  have B0 := Lib.hid (show Blk w0 w.heap.size 25 #[.slice A n cp, .slice A2 n2 cp2] from hw0 ▸ (Blk.new _ _ _).alloc _)
  have C0 := Lib.hid (show Blk w0 (w.heap.size + 1) 48 #[.int .i64 s.lo, .int .i64 s.hi] from hw0 ▸ Blk.at_ (by simp))
  clear hh hs hT hl
  go_enter Tryd.func41, Tryd.ntmps41
  go_wp2_with fail
  simp only [← hw0]
  clear hw0
  refine (check_any c _ _ _ (HT.out.ext E0.out) (HH.out.ext E0.out) (HS.out.ext E0.out) HL.out).mono ?_
  rintro e w1 ⟨rfl, hE⟩
  have E1 := Lib.hid (E0.out.trans hE); have B1 := Lib.hid (B0.out.ext hE); have C1 := Lib.hid (C0.out.ext hE)
  clear hE
  cases hc : checkP c with
  | false =>
    have HO := Lib.hid (show worstE c s = 60 by unfold worstE; rw [hc]; rfl)
    clear hc
    dsimp only [errB]
    go_wp2
    go_ret3
    exact ⟨by rw [worst_nil HO.out (by decide), HO.out]; rfl, E1.out⟩
  | true =>
    have HR := Lib.hid (check_right hc).1
    have HS10 := Lib.hid (check_right hc).2
    have HCK := Lib.hid hc
    clear hc
    dsimp only [errB]
    have x0 := C1.out.c2
    go_wp2_with fail
    clear x0
    refine (priced_any s _).mono ?_
    rintro e w2 ⟨rfl, hE⟩
    have E2 := Lib.hid (E1.out.trans hE); have B2 := Lib.hid (B1.out.ext hE); have C2 := Lib.hid (C1.out.ext hE)
    clear hE
    cases hp : pricedB s with
    | false =>
      have HO := Lib.hid (show worstE c s = 62 by unfold worstE; rw [HCK.out, hp]; rfl)
      clear hp
      go_wp2
      go_ret3
      exact ⟨by rw [worst_nil HO.out (by decide), HO.out]; rfl, E2.out⟩
    | true =>
      have HP := Lib.hid hp
      have HFW := Lib.hid (first_worst (s := s) HR.out HS10.out hp n (by have := hn.out; omega))
      clear hp
      have hmf : ∀ (fn : Fn) (first cap : Array Value) (w : World), (Instr.makeFunc fn first cap).run Tryd.prog w = .ok (.func fn first cap) w := fun _ _ _ _ => rfl
      go_wp2_with fail
      refine (firstL_any (gf := 97) (tf := 98) (xs := lossTo c s n) (ord := fun x y : Int × Int => cmpI y.2 x.2) (enters_of Tryd.func97 (by kernel_rfl) rfl) (enters_of Tryd.func98 (by kernel_rfl) rfl)
        (worst1_seqs HCK.out HP.out (HT.out.ext E2.out) B2.out C2.out (HH.out.ext E2.out) (HS.out.ext E2.out)) (fun x _ y _ W _ => worst2_any x y W)).mono ?_
      rintro e w3 ⟨rfl, hE⟩
      have E3 := Lib.hid (E2.out.trans hE)
      clear hE
      rw [HFW.out]
      by_cases h0 : n = 0
      · have HO := Lib.hid (show worstE c s = 6 by unfold worstE; rw [HCK.out, HP.out]; have := hn.out; rw [if_pos rfl, if_pos rfl, if_pos (by omega)])
        rw [if_pos h0]
        clear h0
        simp only [Option.getD, Option.isSome]
        go_wp2
        go_ret3
        exact ⟨by rw [worst_nil HO.out (by decide), HO.out]; rfl, E3.out.alloc _⟩
      · have HO := Lib.hid (show worstE c s = 0 by unfold worstE; rw [HCK.out, HP.out]; have := hn.out; rw [if_pos rfl, if_pos rfl, if_neg (by omega)])
        have HWP := Lib.hid (show worstP c s = worstTo c s n by unfold worstP; rw [if_pos HO.out]; congr 1; exact hn.out.symm)
        rw [if_neg h0]
        simp only [Option.getD, Option.isSome]
        generalize worstTo c s n = q at HWP ⊢
        have BQ := Lib.hid (show Blk (w3.alloc (.cells #[.int .i64 q.1, .int .i64 q.2] 134)) w3.heap.size 134 #[.int .i64 q.1, .int .i64 q.2] from Blk.new _ _ _)
        obtain ⟨w4, hw4⟩ : ∃ w4, w4 = w3.alloc (.cells #[.int .i64 q.1, .int .i64 q.2] 134) := ⟨_, rfl⟩
        rw [← hw4] at BQ
        have E4 := Lib.hid (show Ext w w4 from hw4 ▸ E3.out.alloc _)
        have m0 := fun W (h : Ext w4 W) => (BQ.out.ext h).c2
        go_wp2
        simp only [← hw4]
        clear hw4
        refine wp_region_tame (fun W => Ext w4 W) (fun W W' => Ext W W') (by kernel_rfl) 28 rfl (by decide +kernel) (Ext.refl _).drew ?_
        repeat (apply tame_q rfl; (intro ρ W hC hr hD; (obtain ⟨hrc, hrg, hrf, hrs⟩ := hr); (simp [go_sem] at hD); go_simp; first | exact ⟨⟨hC, Ext.refl _⟩, rfl⟩ | exact ⟨⟨hC, RS.refl _⟩, rfl⟩ | exact rfl); simp only [List.nil_append, List.cons_append])
        refine tame_end 28 rfl rfl (fun ρ W hC hr hF => ?_)
        obtain ⟨hrc, hrg, hrf, hrs⟩ := hr
        simp [go_sem] at hF
        apply frame_to
        · go_simp
          exact rfl
        clear hF hrs hrc hrg hrf
        have HC := Lib.hid hC
        clear hC m0
        go_wp2
        go_ret3
        exact ⟨by rw [HWP.out, HO.out]; rfl, E4.out.trans HC.out⟩
end Go.Proofs.YtafdbgielmlihaaDoor
/- SameSpans; Worst: the reference's. -/
namespace Go.Proofs.YtafdbgielmlihaaDoor
open Go.RowKit Go.Shelf Go.Lib
set_option maxRecDepth 100000
set_option linter.unusedSimpArgs false

theorem und48 : Tryd.prog.underlying 48 = some (.struct (Tryd.prog.fieldsOf 48)) := by kernel_rfl
theorem held48 : Tryd.prog.stoodInHeld 48 = false := by kernel_rfl
theorem neq48s (a b : Int) (w : World) : (binOp .neq 48 (.agg #[.int .i64 a, .int .i64 b]) (.agg #[.int .i64 a, .int .i64 b])).run Tryd.prog w = .ok (.bool false) w := by
  have u3 := Tryd.underlying3
  have a3 := Tryd.isAgg3
  have z3 := Tryd.sizeOf3
  rw [run_neq_struct, show (10000 : Nat) = 9999 + 1 from rfl, run_equalIn_agg w 9999 48 _ _ und48 held48]
  simp only [Program.fieldsOf, Tryd.underlying48]
  go_simp
theorem sameSpans_any (l : List Span) (v v' : Value) (w : World) (h : SlS w v l) (h' : SlS w v' l) :
    Calls Tryd.prog 43 #[v, v'] w fun e w' => e = .returned (.bool true) ∧ Ext w w' := by
  have HA := Lib.hid h
  have HB := Lib.hid h'
  obtain ⟨A, n, cp, rfl, hn, hlc, hcm⟩ := h.form
  obtain ⟨A2, n2, cp2, rfl, hn2, hlc2, hcm2⟩ := h'.form
  have hnn : n2 = n := by have := hn.out; have := hn2.out; omega
  subst hnn
  have nq := fun a b w => neq48s a b w
  clear h h'
  go_enter Tryd.func43, Tryd.ntmps43
  go_wp2
  go_loopg [5] n2 (fun gg s wr => ∃ (k : Nat), k ≤ n2 ∧ n2 - k ≤ gg ∧ s = .int .i64 k ∧ Aside (Ext w wr))
  case atStart => exact ⟨0, by omega, by omega, rfl, Ext.refl _⟩
  case round =>
    obtain ⟨k, hk, hg, rfl, EW⟩ := hrel
    by_cases hlt : k < n2
    · have hjz : (k : Int) < (n2 : Int) := by omega
      obtain ⟨bb, off, x, rfl, hx, hb, hcell⟩ := HA.out.at_ hlt
      obtain ⟨bb', off', x', rfl, hx', hb', hcell'⟩ := HB.out.at_ hlt
      have hxx : x' = x := by rw [hx] at hx'; injection hx' with h; exact h.symm
      subst hxx
      have c0 := fun W (h : Ext wr W) => (SlS.cells hcell (EW.out.trans h)).1
      have c1 := fun W (h : Ext wr W) => (SlS.cells hcell (EW.out.trans h)).2
      have d0 := fun W (h : Ext wr W) => (SlS.cells hcell' (EW.out.trans h)).1
      have d1 := fun W (h : Ext wr W) => (SlS.cells hcell' (EW.out.trans h)).2
      clear hx hx' hcell hcell'
      go_wp2
      refine wp_region_tame (fun W => Ext wr W) (fun W W' => Ext W W') (by kernel_rfl) 26 rfl (by decide +kernel) (Ext.refl _).drew ?_
      repeat (apply tame_q rfl; (intro ρ W hC hr hD; (obtain ⟨hrc, hrg, hrf, hrs⟩ := hr); (simp [go_sem] at hD); go_simp; first | exact ⟨⟨hC, Ext.refl _⟩, rfl⟩ | exact ⟨⟨hC, RS.refl _⟩, rfl⟩ | exact rfl); simp only [List.nil_append, List.cons_append])
      refine tame_end 26 rfl rfl (fun ρ W hC hr hF => ?_)
      obtain ⟨hrc, hrg, hrf, hrs⟩ := hr
      simp [go_sem] at hF
      apply frame_to
      · go_simp
        exact rfl
      clear hF hrs hrc hrg hrf
      have HC := Lib.hid hC; clear hC c0 c1 d0 d1
      go_wp2
      go_roundg (n2 - (k + 1))
      case measure => omega
      case rel => exact ⟨k + 1, by omega, by omega, rfl, EW.out.trans HC.out⟩
    · go_wp2
      go_ret
      exact ⟨rfl, EW.out⟩
end Go.Proofs.YtafdbgielmlihaaDoor
