/- The reference's struck and lifted: the first list of numbers without which there is a truth. -/
import Derived.Test.YtcoiahjehlplfaaDoorPkChangesCardQ
import Derived.Test.YtcoiahjehlplfaaDoorPkChangesCardD
import Derived.Test.YtcoiahjehlplfaaDoorPkChangesCardG
import Derived.Test.YtcoiahjehlplfaaDoorPkChangesCardS
namespace Go.Proofs.YtcoiahjehlplfaaDoor
open Go.RowKit Go.Shelf Go.Lib
set_option maxRecDepth 100000
set_option linter.unusedSimpArgs false

/-- What comes of a search: the list, in memory from base on, and whether there is one. -/
def Found (base : Nat) (r : Option (List Int)) (v : Value) (W : World) : Prop := ∃ u, v = .tuple #[u, .bool r.isSome] ∧ ∀ x, r = some x → Own encI 3 1 W base u x
def FoundV (base : Nat) (r : Option (List Int)) (u : Value) (W : World) : Prop := ∀ x, r = some x → Own encI 3 1 W base u x
theorem wrap_small {n : Int} (h : 0 ≤ n ∧ n ≤ 100000) : IntKind.i64.wrap n = n := by
  rw [IntKind.wrap_i64]
  omega
theorem tails_pre {k : Nat} {g r x : List Int} (h : x ∈ tails k g r) : g <+: x := by
  unfold tails at h
  obtain ⟨u, _, rfl⟩ := List.mem_map.1 h
  exact List.prefix_append _ _
theorem find_tails {p : List Int → Bool} {k : Nat} {g : List Int} {x : Int} {r : List Int} : (tails (k + 1) g (x :: r)).find? p = ((tails k (g ++ [x]) r).find? p).or ((tails (k + 1) g r).find? p) := by
  rw [tails_cons, List.find?_append]

set_option maxHeartbeats 1000000 in
theorem struck_any (b : Bale) (hbd : Bds b) : ∀ (k : Nat) (g : List Int) (A3 : Option Addr) (n3 c3 i base : Nat) (dv wv : Value) (w : World), base ≤ w.heap.size → g.length + k ≤ 1000 → i ≤ b.draws.length → SlD w dv b.draws → SlW w wv b.weighs → Own encI 3 1 w base (.slice A3 n3 c3) g →
    Calls Tryd.prog 89 #[valB b dv wv, .slice A3 n3 c3, .int .i64 (i : Int), .int .i64 (k : Int)] w fun e w' => ∃ u, e = .returned (.tuple #[u, .bool ((tails k g ((b.draws.map (·.number)).drop i)).find? fun l => grown (spans (withB b l []))).isSome]) ∧
      (∀ x, ((tails k g ((b.draws.map (·.number)).drop i)).find? fun l => grown (spans (withB b l []))) = some x → Own encI 3 1 w' base u x) ∧ Ext w w' := by
  intro k
  induction k with
  | zero =>
    intro g A3 n3 c3 i base dv wv w hba hg hi hd hw hl
    rw [tails_zero]
    have HD := Lib.hid hd; have HW := Lib.hid hw; have HL := Lib.hid hl; have HBD := Lib.hid hbd
    have HLS := Lib.hid (show SlI w (.slice A3 n3 c3) g from hl.sl (fun _ => rfl))
    obtain ⟨A, n, cp, rfl, hn, hlc, hcm⟩ := hd.form
    obtain ⟨A2, n2, cp2, rfl, hn2, hlc2, hcm2⟩ := hw.form
    clear hd hw hl hbd hg hi hba
    go_enter Tryd.func89, Tryd.ntmps89
    go_wp2_with fail
    refine (refWithout_any b g [] _ _ _ _ _ (HD.out.ext (Ext.al _ _)) (HW.out.ext (Ext.al _ _)) (HLS.out.ext (Ext.al _ _)) (Sl.nil _) (by have := HBD.out.nd; omega) (by have := HBD.out.nw; omega)).mono ?_
    rintro e w1 ⟨⟨v1, rfl, dv1, wv1, rfl, o1, o2⟩, hE1⟩
    obtain ⟨Ad, nd, cd, rfl, -, -, -⟩ := (show SlD w1 dv1 _ from o1.sl (fun _ => rfl)).form
    obtain ⟨Aw, nw, cw, rfl, -, -, -⟩ := (show SlW w1 wv1 _ from o2.sl (fun _ => rfl)).form
    have HD1 := Lib.hid (show SlD w1 (.slice Ad nd cd) (withB b g []).draws from o1.sl (fun _ => rfl))
    have HW1 := Lib.hid (show SlW w1 (.slice Aw nw cw) (withB b g []).weighs from o2.sl (fun _ => rfl))
    have HE1 := Lib.hid ((Ext.al w _).trans hE1)
    clear o1 o2 hE1
    go_wp2_with fail
    refine (layers_any (withB b g []) _ _ w1 HD1.out HW1.out HBD.out.l1 HBD.out.l5).mono ?_
    rintro e w2 ⟨sv, rfl, -, hE2⟩
    have HE2 := Lib.hid (HE1.out.trans hE2)
    clear hE2
    cases hgr : grown (spans (withB b g [])) with
    | true =>
      have HF := Lib.hid (show ([g].find? fun l => grown (spans (withB b l []))) = some g by rw [List.find?_cons, hgr])
      go_wp2
      refine bodyPost_ret (v := .tuple #[.slice A3 n3 c3, .bool true]) (by simp [results, Tryd.results89, go_sem]) rfl ?_
      exact ⟨_, by rw [HF.out]; rfl, (fun x hx => by rw [HF.out] at hx; injection hx with hx; subst hx; exact HL.out.ext HE2.out), HE2.out⟩
    | false =>
      have HF := Lib.hid (show ([g].find? fun l => grown (spans (withB b l []))) = none by rw [List.find?_cons, hgr]; rfl)
      go_wp2
      refine bodyPost_ret (v := .tuple #[.slice A3 n3 c3, .bool false]) (by simp [results, Tryd.results89, go_sem]) rfl ?_
      exact ⟨_, by rw [HF.out]; rfl, (fun x hx => by rw [HF.out] at hx; cases hx), HE2.out⟩
  | succ k ih =>
    intro g A3 n3 c3 i base dv wv w hba hg hi hd hw hl
    have HLS := Lib.hid (show SlI w (.slice A3 n3 c3) g from hl.sl (fun _ => rfl))
    have HBA := Lib.hid hba
    have HD := Lib.hid hd; have HW := Lib.hid hw; have HL := Lib.hid hl; have HBD := Lib.hid hbd; have IH := Lib.hid ih
    obtain ⟨A, n, cp, rfl, hn, hlc, hcm⟩ := hd.form
    obtain ⟨A2, n2, cp2, rfl, hn2, hlc2, hcm2⟩ := hw.form
    have hnb : n = b.draws.length := hn.out
    have hi2 : i ≤ n := by omega
    have hn10 : n ≤ 10 := by have := hbd.nd; omega
    have hkz : ¬ (((k : Int) + 1) = 0) := by omega
    have HG := Lib.hid (show g.length + k ≤ 999 by omega)
    have hk1 : (k : Int) + 1 ≤ 1000 := by omega
    generalize hT : (tails (k + 1) g ((b.draws.map (·.number)).drop i)).find? (fun l => grown (spans (withB b l []))) = T
    have HT := Lib.hid hT
    have HNB := Lib.hid hnb
    clear hd hw hl hbd ih hT hnb hi hg hba
    rw [show ((k + 1 : Nat) : Int) = (k : Int) + 1 by omega]
    go_enter Tryd.func89, Tryd.ntmps89
    go_wp2
    go_loopg [12, 13, 14] n (fun gg s12 _ _ wr => ∃ q : Nat, q ≤ n ∧ n - q ≤ gg ∧ s12 = .int .i64 (q : Int) ∧ Aside ((tails (k + 1) g ((b.draws.map (·.number)).drop q)).find? (fun l => grown (spans (withB b l []))) = T) ∧ Aside (Blk wr w.heap.size 27 #[.int .i64 b.id, .int .i64 b.layers, .int .i64 b.dry.lo, .int .i64 b.dry.hi, .slice A n cp, .slice A2 n2 cp2]) ∧ Aside (Ext w wr))
    case atStart => exact ⟨i, by omega, by omega, rfl, HT.out, Blk.new _ _ _, Ext.al _ _⟩
    case round =>
      obtain ⟨q, hq, hgg, rfl, TQ, BW, EX⟩ := hrel
      have x4 := BW.out.cell 4
      simp at x4
      by_cases hqn : q < n
      · have hqz : (q : Int) < (n : Int) := by omega
        have hq0 : (0 : Int) ≤ (q : Int) := by omega
        obtain ⟨bb, off, x, rfl, hx, hbb, hxc⟩ := HD.out.at_ hqn
        obtain ⟨c0, -, -, -⟩ := SlD.cells hxc EX.out
        have HDR := Lib.hid (show (b.draws.map (·.number)).drop q = x.number :: (b.draws.map (·.number)).drop (q + 1) from drop_at (by rw [List.getElem?_map, hx]; rfl))
        clear hx hxc
        go_wp2_with fail
        have m0 := fun W (h : Ext wr W) => (show W.cell? ⟨w.heap.size, 0, none⟩ = some (.int .i64 b.id) from (BW.out.ext h).cell 0)
        have m1 := fun W (h : Ext wr W) => (show W.cell? ⟨w.heap.size, 1, none⟩ = some (.int .i64 b.layers) from (BW.out.ext h).cell 1)
        have m2 := fun W (h : Ext wr W) => (show W.cell? ⟨w.heap.size, 2, none⟩ = some (.int .i64 b.dry.lo) from (BW.out.ext h).cell 2)
        have m3 := fun W (h : Ext wr W) => (show W.cell? ⟨w.heap.size, 3, none⟩ = some (.int .i64 b.dry.hi) from (BW.out.ext h).cell 3)
        have m4 := fun W (h : Ext wr W) => (show W.cell? ⟨w.heap.size, 4, none⟩ = some (.slice (some ⟨bb, off, none⟩) n cp) from (BW.out.ext h).cell 4)
        have m5 := fun W (h : Ext wr W) => (show W.cell? ⟨w.heap.size, 5, none⟩ = some (.slice A2 n2 cp2) from (BW.out.ext h).cell 5)
        have mx := fun W (h : Ext wr W) => (h.cells.1 bb (off + q * 4) (is_cells c0).1).trans c0
        have HTS := Lib.hid (find_tails (p := fun l => grown (spans (withB b l []))) (k := k) (g := g) (x := x.number) (r := (b.draws.map (·.number)).drop (q + 1)))
        have HPX := Lib.hid (show ∀ z, (tails k (g ++ [x.number]) ((b.draws.map (·.number)).drop (q + 1))).find? (fun l => grown (spans (withB b l []))) = some z → g ++ [x.number] <+: z from fun z hz => tails_pre (List.mem_of_find?_eq_some hz))
        have HIH := Lib.hid (fun (A4 : Option Addr) (n4 c4 : Nat) (W : World) (hw : wr.heap.size ≤ W.heap.size) (hE : Ext w W) (ho : Own encI 3 1 W wr.heap.size (.slice A4 n4 c4) (g ++ [x.number])) => IH.out (g ++ [x.number]) A4 n4 c4 (q + 1) wr.heap.size _ _ W hw (by simp; have := HG.out; omega) (by have := HNB.out; omega) (HD.out.ext hE) (HW.out.ext hE) ho)
        generalize hr : (tails k (g ++ [x.number]) ((b.draws.map (·.number)).drop (q + 1))).find? (fun l => grown (spans (withB b l []))) = r at *
        have hwq : IntKind.i64.wrap ((q : Int) + 1) = (q : Int) + 1 := wrap_small (by omega)
        have hwk : IntKind.i64.wrap (k : Int) = (k : Int) := wrap_small (by omega)
        refine wp_region_tame (fun W => Ext wr W) (RC wr.heap.size g x.number) (by kernel_rfl) 56 rfl (by decide +kernel) (Ext.refl _).drew ?_
        repeat (apply tame_q rfl; (intro ρ W hC hr hD; (obtain ⟨hrc, hrg, hrf, hrs⟩ := hr); (simp [go_sem] at hD); go_simp; first | exact ⟨⟨hC, RC.refl _⟩, rfl⟩ | exact rfl); simp only [List.nil_append, List.cons_append])
        apply tame_v rfl (EmptyAt 3 wr.heap.size) (fun v W W' _ hR h => by obtain ⟨g', h1, h2, h3⟩ := h; exact ⟨g', h1, h2, hR.2.2.2.2 g' h3⟩)
        · intro ρ W hC hr hD
          obtain ⟨hrc, hrg, hrf, hrs⟩ := hr
          simp [go_sem] at hD
          go_simp
          exact ⟨⟨hC.alloc _, RC.ext (Ext.al _ _)⟩, ⟨_, rfl, hC.size, Blk.new _ _ _⟩⟩
        simp only [List.nil_append, List.cons_append]
        repeat (apply tame_q rfl; (intro ρ W hC hr hD; (obtain ⟨hrc, hrg, hrf, hrs⟩ := hr); (simp [go_sem] at hD); go_simp; first | exact ⟨⟨hC, RC.refl _⟩, rfl⟩ | exact rfl); simp only [List.nil_append, List.cons_append])
        apply tame_v rfl (NewI wr.heap.size g) (fun v W W' _ hR h => ⟨hR.2.1 v h.1, h.2⟩)
        · intro ρ W hC hr' hD
          obtain ⟨hrc, hrg, hrf, hrs⟩ := hr'
          simp [go_sem] at hD
          obtain ⟨⟨g9, q1, q2, q3⟩, q4⟩ := hD
          obtain ⟨v', W', hrun, hown, hext⟩ := run_copyI q3 q2 hC.size (HLS.out.ext (EX.out.trans hC)) (by have := HG.out; omega) 56
          show opGives _ _ _ _ _ _ _
          unfold opGives execOp
          simp only [resolve, invoke, builtin, Sem.run_bind, Sem.run_pure, Result.andThen_ok, List.map_toArray, List.map_cons, List.map_nil, q1, q4, hrun]
          exact ⟨⟨hC.trans hext, RC.ext hext⟩, hown⟩
        simp only [List.nil_append, List.cons_append]
        repeat (apply tame_q rfl; (intro ρ W hC hr hD; (obtain ⟨hrc, hrg, hrf, hrs⟩ := hr); (simp [go_sem] at hD); go_simp; first | exact ⟨⟨hC, RC.refl _⟩, rfl⟩ | exact rfl); simp only [List.nil_append, List.cons_append])
        apply tame_v rfl (OneB x.number) (fun v W W' _ hR h => by obtain ⟨b, h1, h2⟩ := h; exact ⟨b, h1, hR.2.2.2.1 b h2⟩)
        · intro ρ W hC hr' hD
          obtain ⟨hrc, hrg, hrf, hrs⟩ := hr'
          simp [go_sem] at hD
          go_simp
          exact ⟨⟨hC.alloc _, RC.ext (Ext.al _ _)⟩, ⟨_, rfl, Blk.new _ _ _⟩⟩
        simp only [List.nil_append, List.cons_append]
        apply tame_v rfl (fun v W => Own encI 3 1 W wr.heap.size v (g ++ [x.number])) (fun v W W' _ hR h => hR.2.2.1 _ (List.prefix_refl _) v h)
        · intro ρ W hC hr' hD
          obtain ⟨hrc, hrg, hrf, hrs⟩ := hr'
          simp [go_sem] at hD
          obtain ⟨d1, ⟨b9, d2, d3⟩, -⟩ := hD
          obtain ⟨v', W', hrun, ho, hR, hB⟩ := run_appc (c := 1) d1 hC.size (by have := HG.out; omega) d3 56
          show opGives _ _ _ _ _ _ _
          unfold opGives execOp
          simp only [resolve, invoke, builtin, Sem.run_bind, Sem.run_pure, Result.andThen_ok, List.map_toArray, List.map_cons, List.map_nil, d2, hrun]
          exact ⟨⟨Below.trans hC hB, hR⟩, ho⟩
        simp only [List.nil_append, List.cons_append]
        repeat (apply tame_q rfl; (intro ρ W hC hr hD; (obtain ⟨hrc, hrg, hrf, hrs⟩ := hr); (simp [go_sem] at hD); go_simp; first | exact ⟨⟨hC, RC.refl _⟩, rfl⟩ | exact rfl); simp only [List.nil_append, List.cons_append])
        apply tame_v rfl (Found wr.heap.size r) (fun v W W' _ hR h => by obtain ⟨u, h1, h2⟩ := h; exact ⟨u, h1, fun z hz => hR.2.2.1 z (HPX.out z hz) u (h2 z hz)⟩)
        · intro ρ W hC hr' hD
          obtain ⟨hrc, hrg, hrf, hrs⟩ := hr'
          simp [go_sem] at hD
          obtain ⟨d1, d2, d3, d4, -⟩ := hD
          rcases own_form d2 with ⟨-, h0⟩ | ⟨g', cap, cur, e5, hg', -⟩
          · exact absurd h0 (by simp)
          rw [e5] at d2
          have D2 := Lib.hid d2; clear d2
          go_simp
          have H := HIH.out (some ⟨g', 0, none⟩) _ cap W hC.size (EX.out.trans hC) D2.out
          rw [show (((q + 1 : Nat) : Int)) = (q : Int) + 1 by omega] at H
          rw [List.length_append, List.length_singleton] at H
          refine H.mono ?_
          rintro e w' ⟨u, rfl, hu, hE⟩
          exact ⟨_, rfl, ⟨hC.trans hE, RC.ext hE⟩, u, rfl, hu⟩
        simp only [List.nil_append, List.cons_append]
        apply tame_v rfl (Found wr.heap.size r) (fun v W W' _ hR h => by obtain ⟨u, h1, h2⟩ := h; exact ⟨u, h1, fun z hz => hR.2.2.1 z (HPX.out z hz) u (h2 z hz)⟩)
        · intro ρ W hC hr' hD
          obtain ⟨hrc, hrg, hrf, hrs⟩ := hr'
          simp [go_sem] at hD
          go_simp
          first | exact ⟨⟨hC, RC.refl _⟩, hD⟩ | exact ⟨hC, RC.refl _⟩
        simp only [List.nil_append, List.cons_append]
        apply tame_v rfl (FoundV wr.heap.size r) (fun v W W' _ hR h z hz => hR.2.2.1 z (HPX.out z hz) v (h z hz))
        · intro ρ W hC hr' hD
          obtain ⟨hrc, hrg, hrf, hrs⟩ := hr'
          simp [go_sem] at hD
          obtain ⟨u, e1, hu⟩ := hD
          go_simp
          first | exact ⟨⟨hC, RC.refl _⟩, hu⟩ | exact ⟨hC, RC.refl _⟩
        simp only [List.nil_append, List.cons_append]
        apply tame_v rfl (fun v _ => v = .bool r.isSome) (fun v W W' _ hR h => h)
        · intro ρ W hC hr' hD
          obtain ⟨hrc, hrg, hrf, hrs⟩ := hr'
          simp [go_sem] at hD
          obtain ⟨u, e1, hu⟩ := hD
          go_simp
          first | exact ⟨⟨hC, RC.refl _⟩, rfl⟩ | exact ⟨hC, RC.refl _⟩
        simp only [List.nil_append, List.cons_append]
        apply tame_v rfl (FoundV wr.heap.size r) (fun v W W' _ hR h z hz => hR.2.2.1 z (HPX.out z hz) v (h z hz))
        · intro ρ W hC hr' hD
          obtain ⟨hrc, hrg, hrf, hrs⟩ := hr'
          simp [go_sem] at hD
          go_simp
          exact ⟨hC, RC.refl _⟩
        simp only [List.nil_append, List.cons_append]
        repeat (apply tame_q rfl; (intro ρ W hC hr hD; (obtain ⟨hrc, hrg, hrf, hrs⟩ := hr); (simp [go_sem] at hD); go_simp; first | exact ⟨⟨hC, RC.refl _⟩, rfl⟩ | exact rfl); simp only [List.nil_append, List.cons_append])
        refine tame_end 56 rfl rfl (fun ρ W hC hr' hF => ?_)
        obtain ⟨hrc, hrg, hrf, hrs⟩ := hr'
        simp [go_sem] at hF
        obtain ⟨f35, f36, f37, f38, f39, f40, f41, f42, f43, f44, f45, f46, f47, f48, f49, f50, f51, f34, f52, f53, f13, f14⟩ := hF
        have HFV := Lib.hid f13
        apply frame_to
        · go_simp
          exact rfl
        generalize ρ (Operand.tmp 36) = v36 at *
        generalize ρ (Operand.tmp 38) = v38 at *
        generalize ρ (Operand.tmp 45) = v45 at *
        generalize ρ (Operand.tmp 46) = v46 at *
        generalize ρ (Operand.tmp 51) = v51 at *
        generalize ρ (Operand.tmp 34) = v34 at *
        generalize ρ (Operand.tmp 52) = v52 at *
        generalize ρ (Operand.tmp 13) = v13 at *
        have EXW := Lib.hid (EX.out.trans hC)
        have BWW := Lib.hid (BW.out.ext hC)
        clear f35 f36 f37 f38 f39 f40 f41 f42 f43 f44 f45 f46 f47 f48 f49 f50 f51 f34 f52 f53 f13 f14 hrs hrc hrg hrf m0 m1 m2 m3 m4 m5 mx hwq hwk
        cases r with
        | none =>
          have HTN := Lib.hid (show (tails (k + 1) g ((b.draws.map (·.number)).drop (q + 1))).find? (fun l => grown (spans (withB b l []))) = T by
            rw [← TQ.out, HDR.out, HTS.out]; rfl)
          show _
          simp only [Option.isSome_none]
          go_wp2
          go_roundg (n - (q + 1))
          case measure => omega
          case rel => exact ⟨q + 1, by omega, by omega, by simp, HTN.out, BWW.out, EXW.out⟩
        | some z =>
          have HTN := Lib.hid (show T = some z by rw [← TQ.out, HDR.out, HTS.out]; rfl)
          have HZ := Lib.hid (HFV.out z rfl)
          have hws := EX.out.size
          simp only [Option.isSome_some]
          go_wp2
          refine bodyPost_ret (v := .tuple #[v13, .bool true]) (by simp [results, Tryd.results89, go_sem]) rfl ?_
          exact ⟨_, by rw [HTN.out]; rfl, (fun y hy => by rw [HTN.out] at hy; injection hy with hy; subst hy; exact HZ.out.mono (by have := HBA.out; omega)), EXW.out⟩
      · have HQ := Lib.hid (show T = none by rw [← TQ.out, List.drop_eq_nil_of_le (by rw [List.length_map]; have := HNB.out; omega), tails_nil]; rfl)
        go_wp2
        refine bodyPost_ret (v := .tuple #[.slice none 0 0, .bool false]) (by simp [results, Tryd.results89, go_sem]) rfl ?_
        exact ⟨_, by rw [HQ.out]; rfl, (fun x hx => by rw [HQ.out] at hx; cases hx), EX.out⟩
set_option maxHeartbeats 1000000 in
theorem lifted_any (b : Bale) (hbd : Bds b) : ∀ (k : Nat) (g : List Int) (A3 : Option Addr) (n3 c3 i base : Nat) (dv wv : Value) (w : World), base ≤ w.heap.size → g.length + k ≤ 1000 → i ≤ b.weighs.length → SlD w dv b.draws → SlW w wv b.weighs → Own encI 3 1 w base (.slice A3 n3 c3) g →
    Calls Tryd.prog 90 #[valB b dv wv, .slice A3 n3 c3, .int .i64 (i : Int), .int .i64 (k : Int)] w fun e w' => ∃ u, e = .returned (.tuple #[u, .bool ((tails k g ((b.weighs.map (·.number)).drop i)).find? fun l => decide (0 < (dries (withB b [] l)).length)).isSome]) ∧
      (∀ x, ((tails k g ((b.weighs.map (·.number)).drop i)).find? fun l => decide (0 < (dries (withB b [] l)).length)) = some x → Own encI 3 1 w' base u x) ∧ Ext w w' := by
  intro k
  induction k with
  | zero =>
    intro g A3 n3 c3 i base dv wv w hba hg hi hd hw hl
    rw [tails_zero]
    have HD := Lib.hid hd; have HW := Lib.hid hw; have HL := Lib.hid hl; have HBD := Lib.hid hbd
    have HLS := Lib.hid (show SlI w (.slice A3 n3 c3) g from hl.sl (fun _ => rfl))
    obtain ⟨A, n, cp, rfl, hn, hlc, hcm⟩ := hd.form
    obtain ⟨A2, n2, cp2, rfl, hn2, hlc2, hcm2⟩ := hw.form
    clear hd hw hl hbd hg hi hba
    go_enter Tryd.func90, Tryd.ntmps90
    go_wp2_with fail
    refine (refWithout_any b [] g _ _ _ _ _ (HD.out.ext (Ext.al _ _)) (HW.out.ext (Ext.al _ _)) (Sl.nil _) (HLS.out.ext (Ext.al _ _)) (by have := HBD.out.nd; omega) (by have := HBD.out.nw; omega)).mono ?_
    rintro e w1 ⟨⟨v1, rfl, dv1, wv1, rfl, o1, o2⟩, hE1⟩
    obtain ⟨Ad, nd, cd, rfl, -, -, -⟩ := (show SlD w1 dv1 _ from o1.sl (fun _ => rfl)).form
    obtain ⟨Aw, nw, cw, rfl, -, -, -⟩ := (show SlW w1 wv1 _ from o2.sl (fun _ => rfl)).form
    have HD1 := Lib.hid (show SlD w1 (.slice Ad nd cd) (withB b [] g).draws from o1.sl (fun _ => rfl))
    have HW1 := Lib.hid (show SlW w1 (.slice Aw nw cw) (withB b [] g).weighs from o2.sl (fun _ => rfl))
    have HE1 := Lib.hid ((Ext.al w _).trans hE1)
    clear o1 o2 hE1
    go_wp2_with fail
    refine (dries_any (withB b [] g) _ _ w1 HD1.out HW1.out HBD.out.lo HBD.out.lh HBD.out.hi (withB_bds HBD.out [] g)).mono ?_
    rintro e w2 ⟨sv, rfl, hs2, hE2⟩
    obtain ⟨As, ns, cs, rfl, hns, -, -⟩ := hs2.form
    have HE2 := Lib.hid (HE1.out.trans hE2)
    have HNS := Lib.hid hns.out
    clear hE2 hs2 hns
    by_cases hgr : 0 < ns
    · have hgz : (0 : Int) < (ns : Int) := by omega
      have HF := Lib.hid (show ([g].find? fun l => decide (0 < (dries (withB b [] l)).length)) = some g by rw [List.find?_cons, show decide (0 < (dries (withB b [] g)).length) = true from decide_eq_true (by have := HNS.out; omega)])
      go_wp2
      refine bodyPost_ret (v := .tuple #[.slice A3 n3 c3, .bool true]) (by simp [results, Tryd.results90, go_sem]) rfl ?_
      exact ⟨_, by rw [HF.out]; rfl, (fun x hx => by rw [HF.out] at hx; injection hx with hx; subst hx; exact HL.out.ext HE2.out), HE2.out⟩
    · have hgz : ¬ ((0 : Int) < (ns : Int)) := by omega
      have HF := Lib.hid (show ([g].find? fun l => decide (0 < (dries (withB b [] l)).length)) = none by rw [List.find?_cons, show decide (0 < (dries (withB b [] g)).length) = false from decide_eq_false (by have := HNS.out; omega)]; rfl)
      go_wp2
      refine bodyPost_ret (v := .tuple #[.slice A3 n3 c3, .bool false]) (by simp [results, Tryd.results90, go_sem]) rfl ?_
      exact ⟨_, by rw [HF.out]; rfl, (fun x hx => by rw [HF.out] at hx; cases hx), HE2.out⟩
  | succ k ih =>
    intro g A3 n3 c3 i base dv wv w hba hg hi hd hw hl
    have HLS := Lib.hid (show SlI w (.slice A3 n3 c3) g from hl.sl (fun _ => rfl))
    have HBA := Lib.hid hba
    have HD := Lib.hid hd; have HW := Lib.hid hw; have HL := Lib.hid hl; have HBD := Lib.hid hbd; have IH := Lib.hid ih
    obtain ⟨A, n, cp, rfl, hn, hlc, hcm⟩ := hd.form
    obtain ⟨A2, n2, cp2, rfl, hn2, hlc2, hcm2⟩ := hw.form
    have hnb : n2 = b.weighs.length := hn2.out
    have hi2 : i ≤ n2 := by omega
    have hn10 : n2 ≤ 10 := by have := hbd.nw; omega
    have hkz : ¬ (((k : Int) + 1) = 0) := by omega
    have HG := Lib.hid (show g.length + k ≤ 999 by omega)
    have hk1 : (k : Int) + 1 ≤ 1000 := by omega
    generalize hT : (tails (k + 1) g ((b.weighs.map (·.number)).drop i)).find? (fun l => decide (0 < (dries (withB b [] l)).length)) = T
    have HT := Lib.hid hT
    have HNB := Lib.hid hnb
    clear hd hw hl hbd ih hT hnb hi hg hba
    rw [show ((k + 1 : Nat) : Int) = (k : Int) + 1 by omega]
    go_enter Tryd.func90, Tryd.ntmps90
    go_wp2
    go_loopg [10, 11, 12] n2 (fun gg s12 _ _ wr => ∃ q : Nat, q ≤ n2 ∧ n2 - q ≤ gg ∧ s12 = .int .i64 (q : Int) ∧ Aside ((tails (k + 1) g ((b.weighs.map (·.number)).drop q)).find? (fun l => decide (0 < (dries (withB b [] l)).length)) = T) ∧ Aside (Blk wr w.heap.size 27 #[.int .i64 b.id, .int .i64 b.layers, .int .i64 b.dry.lo, .int .i64 b.dry.hi, .slice A n cp, .slice A2 n2 cp2]) ∧ Aside (Ext w wr))
    case atStart => exact ⟨i, by omega, by omega, rfl, HT.out, Blk.new _ _ _, Ext.al _ _⟩
    case round =>
      obtain ⟨q, hq, hgg, rfl, TQ, BW, EX⟩ := hrel
      have x4 := BW.out.cell 5
      simp at x4
      by_cases hqn : q < n2
      · have hqz : (q : Int) < (n2 : Int) := by omega
        have hq0 : (0 : Int) ≤ (q : Int) := by omega
        obtain ⟨bb, off, x, rfl, hx, hbb, hxc⟩ := HW.out.at_ hqn
        obtain ⟨c0, -, -, -⟩ := SlW.cells hxc EX.out
        have HDR := Lib.hid (show (b.weighs.map (·.number)).drop q = x.number :: (b.weighs.map (·.number)).drop (q + 1) from drop_at (by rw [List.getElem?_map, hx]; rfl))
        clear hx hxc
        go_wp2_with fail
        have m0 := fun W (h : Ext wr W) => (show W.cell? ⟨w.heap.size, 0, none⟩ = some (.int .i64 b.id) from (BW.out.ext h).cell 0)
        have m1 := fun W (h : Ext wr W) => (show W.cell? ⟨w.heap.size, 1, none⟩ = some (.int .i64 b.layers) from (BW.out.ext h).cell 1)
        have m2 := fun W (h : Ext wr W) => (show W.cell? ⟨w.heap.size, 2, none⟩ = some (.int .i64 b.dry.lo) from (BW.out.ext h).cell 2)
        have m3 := fun W (h : Ext wr W) => (show W.cell? ⟨w.heap.size, 3, none⟩ = some (.int .i64 b.dry.hi) from (BW.out.ext h).cell 3)
        have m4 := fun W (h : Ext wr W) => (show W.cell? ⟨w.heap.size, 4, none⟩ = some (.slice A n cp) from (BW.out.ext h).cell 4)
        have m5 := fun W (h : Ext wr W) => (show W.cell? ⟨w.heap.size, 5, none⟩ = some (.slice (some ⟨bb, off, none⟩) n2 cp2) from (BW.out.ext h).cell 5)
        have mx := fun W (h : Ext wr W) => (h.cells.1 bb (off + q * 4) (is_cells c0).1).trans c0
        have HTS := Lib.hid (find_tails (p := fun l => decide (0 < (dries (withB b [] l)).length)) (k := k) (g := g) (x := x.number) (r := (b.weighs.map (·.number)).drop (q + 1)))
        have HPX := Lib.hid (show ∀ z, (tails k (g ++ [x.number]) ((b.weighs.map (·.number)).drop (q + 1))).find? (fun l => decide (0 < (dries (withB b [] l)).length)) = some z → g ++ [x.number] <+: z from fun z hz => tails_pre (List.mem_of_find?_eq_some hz))
        have HIH := Lib.hid (fun (A4 : Option Addr) (n4 c4 : Nat) (W : World) (hw : wr.heap.size ≤ W.heap.size) (hE : Ext w W) (ho : Own encI 3 1 W wr.heap.size (.slice A4 n4 c4) (g ++ [x.number])) => IH.out (g ++ [x.number]) A4 n4 c4 (q + 1) wr.heap.size _ _ W hw (by simp; have := HG.out; omega) (by have := HNB.out; omega) (HD.out.ext hE) (HW.out.ext hE) ho)
        generalize hr : (tails k (g ++ [x.number]) ((b.weighs.map (·.number)).drop (q + 1))).find? (fun l => decide (0 < (dries (withB b [] l)).length)) = r at *
        have hwq : IntKind.i64.wrap ((q : Int) + 1) = (q : Int) + 1 := wrap_small (by omega)
        have hwk : IntKind.i64.wrap (k : Int) = (k : Int) := wrap_small (by omega)
        refine wp_region_tame (fun W => Ext wr W) (RC wr.heap.size g x.number) (by kernel_rfl) 52 rfl (by decide +kernel) (Ext.refl _).drew ?_
        repeat (apply tame_q rfl; (intro ρ W hC hr hD; (obtain ⟨hrc, hrg, hrf, hrs⟩ := hr); (simp [go_sem] at hD); go_simp; first | exact ⟨⟨hC, RC.refl _⟩, rfl⟩ | exact rfl); simp only [List.nil_append, List.cons_append])
        apply tame_v rfl (EmptyAt 3 wr.heap.size) (fun v W W' _ hR h => by obtain ⟨g', h1, h2, h3⟩ := h; exact ⟨g', h1, h2, hR.2.2.2.2 g' h3⟩)
        · intro ρ W hC hr hD
          obtain ⟨hrc, hrg, hrf, hrs⟩ := hr
          simp [go_sem] at hD
          go_simp
          exact ⟨⟨hC.alloc _, RC.ext (Ext.al _ _)⟩, ⟨_, rfl, hC.size, Blk.new _ _ _⟩⟩
        simp only [List.nil_append, List.cons_append]
        repeat (apply tame_q rfl; (intro ρ W hC hr hD; (obtain ⟨hrc, hrg, hrf, hrs⟩ := hr); (simp [go_sem] at hD); go_simp; first | exact ⟨⟨hC, RC.refl _⟩, rfl⟩ | exact rfl); simp only [List.nil_append, List.cons_append])
        apply tame_v rfl (NewI wr.heap.size g) (fun v W W' _ hR h => ⟨hR.2.1 v h.1, h.2⟩)
        · intro ρ W hC hr' hD
          obtain ⟨hrc, hrg, hrf, hrs⟩ := hr'
          simp [go_sem] at hD
          obtain ⟨⟨g9, q1, q2, q3⟩, q4⟩ := hD
          obtain ⟨v', W', hrun, hown, hext⟩ := run_copyI q3 q2 hC.size (HLS.out.ext (EX.out.trans hC)) (by have := HG.out; omega) 56
          show opGives _ _ _ _ _ _ _
          unfold opGives execOp
          simp only [resolve, invoke, builtin, Sem.run_bind, Sem.run_pure, Result.andThen_ok, List.map_toArray, List.map_cons, List.map_nil, q1, q4, hrun]
          exact ⟨⟨hC.trans hext, RC.ext hext⟩, hown⟩
        simp only [List.nil_append, List.cons_append]
        repeat (apply tame_q rfl; (intro ρ W hC hr hD; (obtain ⟨hrc, hrg, hrf, hrs⟩ := hr); (simp [go_sem] at hD); go_simp; first | exact ⟨⟨hC, RC.refl _⟩, rfl⟩ | exact rfl); simp only [List.nil_append, List.cons_append])
        apply tame_v rfl (OneB x.number) (fun v W W' _ hR h => by obtain ⟨b, h1, h2⟩ := h; exact ⟨b, h1, hR.2.2.2.1 b h2⟩)
        · intro ρ W hC hr' hD
          obtain ⟨hrc, hrg, hrf, hrs⟩ := hr'
          simp [go_sem] at hD
          go_simp
          exact ⟨⟨hC.alloc _, RC.ext (Ext.al _ _)⟩, ⟨_, rfl, Blk.new _ _ _⟩⟩
        simp only [List.nil_append, List.cons_append]
        apply tame_v rfl (fun v W => Own encI 3 1 W wr.heap.size v (g ++ [x.number])) (fun v W W' _ hR h => hR.2.2.1 _ (List.prefix_refl _) v h)
        · intro ρ W hC hr' hD
          obtain ⟨hrc, hrg, hrf, hrs⟩ := hr'
          simp [go_sem] at hD
          obtain ⟨d1, ⟨b9, d2, d3⟩, -⟩ := hD
          obtain ⟨v', W', hrun, ho, hR, hB⟩ := run_appc (c := 1) d1 hC.size (by have := HG.out; omega) d3 56
          show opGives _ _ _ _ _ _ _
          unfold opGives execOp
          simp only [resolve, invoke, builtin, Sem.run_bind, Sem.run_pure, Result.andThen_ok, List.map_toArray, List.map_cons, List.map_nil, d2, hrun]
          exact ⟨⟨Below.trans hC hB, hR⟩, ho⟩
        simp only [List.nil_append, List.cons_append]
        repeat (apply tame_q rfl; (intro ρ W hC hr hD; (obtain ⟨hrc, hrg, hrf, hrs⟩ := hr); (simp [go_sem] at hD); go_simp; first | exact ⟨⟨hC, RC.refl _⟩, rfl⟩ | exact rfl); simp only [List.nil_append, List.cons_append])
        apply tame_v rfl (Found wr.heap.size r) (fun v W W' _ hR h => by obtain ⟨u, h1, h2⟩ := h; exact ⟨u, h1, fun z hz => hR.2.2.1 z (HPX.out z hz) u (h2 z hz)⟩)
        · intro ρ W hC hr' hD
          obtain ⟨hrc, hrg, hrf, hrs⟩ := hr'
          simp [go_sem] at hD
          obtain ⟨d1, d2, d3, d4, -⟩ := hD
          rcases own_form d2 with ⟨-, h0⟩ | ⟨g', cap, cur, e5, hg', -⟩
          · exact absurd h0 (by simp)
          rw [e5] at d2
          have D2 := Lib.hid d2; clear d2
          go_simp
          have H := HIH.out (some ⟨g', 0, none⟩) _ cap W hC.size (EX.out.trans hC) D2.out
          rw [show (((q + 1 : Nat) : Int)) = (q : Int) + 1 by omega] at H
          rw [List.length_append, List.length_singleton] at H
          refine H.mono ?_
          rintro e w' ⟨u, rfl, hu, hE⟩
          exact ⟨_, rfl, ⟨hC.trans hE, RC.ext hE⟩, u, rfl, hu⟩
        simp only [List.nil_append, List.cons_append]
        apply tame_v rfl (Found wr.heap.size r) (fun v W W' _ hR h => by obtain ⟨u, h1, h2⟩ := h; exact ⟨u, h1, fun z hz => hR.2.2.1 z (HPX.out z hz) u (h2 z hz)⟩)
        · intro ρ W hC hr' hD
          obtain ⟨hrc, hrg, hrf, hrs⟩ := hr'
          simp [go_sem] at hD
          go_simp
          first | exact ⟨⟨hC, RC.refl _⟩, hD⟩ | exact ⟨hC, RC.refl _⟩
        simp only [List.nil_append, List.cons_append]
        apply tame_v rfl (FoundV wr.heap.size r) (fun v W W' _ hR h z hz => hR.2.2.1 z (HPX.out z hz) v (h z hz))
        · intro ρ W hC hr' hD
          obtain ⟨hrc, hrg, hrf, hrs⟩ := hr'
          simp [go_sem] at hD
          obtain ⟨u, e1, hu⟩ := hD
          go_simp
          first | exact ⟨⟨hC, RC.refl _⟩, hu⟩ | exact ⟨hC, RC.refl _⟩
        simp only [List.nil_append, List.cons_append]
        apply tame_v rfl (fun v _ => v = .bool r.isSome) (fun v W W' _ hR h => h)
        · intro ρ W hC hr' hD
          obtain ⟨hrc, hrg, hrf, hrs⟩ := hr'
          simp [go_sem] at hD
          obtain ⟨u, e1, hu⟩ := hD
          go_simp
          first | exact ⟨⟨hC, RC.refl _⟩, rfl⟩ | exact ⟨hC, RC.refl _⟩
        simp only [List.nil_append, List.cons_append]
        apply tame_v rfl (FoundV wr.heap.size r) (fun v W W' _ hR h z hz => hR.2.2.1 z (HPX.out z hz) v (h z hz))
        · intro ρ W hC hr' hD
          obtain ⟨hrc, hrg, hrf, hrs⟩ := hr'
          simp [go_sem] at hD
          go_simp
          exact ⟨hC, RC.refl _⟩
        simp only [List.nil_append, List.cons_append]
        repeat (apply tame_q rfl; (intro ρ W hC hr hD; (obtain ⟨hrc, hrg, hrf, hrs⟩ := hr); (simp [go_sem] at hD); go_simp; first | exact ⟨⟨hC, RC.refl _⟩, rfl⟩ | exact rfl); simp only [List.nil_append, List.cons_append])
        refine tame_end 52 rfl rfl (fun ρ W hC hr' hF => ?_)
        obtain ⟨hrc, hrg, hrf, hrs⟩ := hr'
        simp [go_sem] at hF
        obtain ⟨f35, f36, f37, f38, f39, f40, f41, f42, f43, f44, f45, f46, f47, f48, f49, f50, f51, f34, f52, f53, f13, f14⟩ := hF
        have HFV := Lib.hid f13
        apply frame_to
        · go_simp
          exact rfl
        generalize ρ (Operand.tmp 32) = v36 at *
        generalize ρ (Operand.tmp 34) = v38 at *
        generalize ρ (Operand.tmp 41) = v45 at *
        generalize ρ (Operand.tmp 42) = v46 at *
        generalize ρ (Operand.tmp 47) = v51 at *
        generalize ρ (Operand.tmp 30) = v34 at *
        generalize ρ (Operand.tmp 48) = v52 at *
        generalize ρ (Operand.tmp 11) = v13 at *
        have EXW := Lib.hid (EX.out.trans hC)
        have BWW := Lib.hid (BW.out.ext hC)
        clear f35 f36 f37 f38 f39 f40 f41 f42 f43 f44 f45 f46 f47 f48 f49 f50 f51 f34 f52 f53 f13 f14 hrs hrc hrg hrf m0 m1 m2 m3 m4 m5 mx hwq hwk
        cases r with
        | none =>
          have HTN := Lib.hid (show (tails (k + 1) g ((b.weighs.map (·.number)).drop (q + 1))).find? (fun l => decide (0 < (dries (withB b [] l)).length)) = T by
            rw [← TQ.out, HDR.out, HTS.out]; rfl)
          show _
          simp only [Option.isSome_none]
          go_wp2
          go_roundg (n2 - (q + 1))
          case measure => omega
          case rel => exact ⟨q + 1, by omega, by omega, by simp, HTN.out, BWW.out, EXW.out⟩
        | some z =>
          have HTN := Lib.hid (show T = some z by rw [← TQ.out, HDR.out, HTS.out]; rfl)
          have HZ := Lib.hid (HFV.out z rfl)
          have hws := EX.out.size
          simp only [Option.isSome_some]
          go_wp2
          refine bodyPost_ret (v := .tuple #[v13, .bool true]) (by simp [results, Tryd.results90, go_sem]) rfl ?_
          exact ⟨_, by rw [HTN.out]; rfl, (fun y hy => by rw [HTN.out] at hy; injection hy with hy; subst hy; exact HZ.out.mono (by have := HBA.out; omega)), EXW.out⟩
      · have HQ := Lib.hid (show T = none by rw [← TQ.out, List.drop_eq_nil_of_le (by rw [List.length_map]; have := HNB.out; omega), tails_nil]; rfl)
        go_wp2
        refine bodyPost_ret (v := .tuple #[.slice none 0 0, .bool false]) (by simp [results, Tryd.results90, go_sem]) rfl ?_
        exact ⟨_, by rw [HQ.out]; rfl, (fun x hx => by rw [HQ.out] at hx; cases hx), EX.out⟩
end Go.Proofs.YtcoiahjehlplfaaDoor
/- The reference's Wrong. -/
namespace Go.Proofs.YtcoiahjehlplfaaDoor
open Go.RowKit Go.Shelf Go.Lib
set_option maxRecDepth 100000
set_option linter.unusedSimpArgs false

theorem combos_long : ∀ {n : Nat} {all : List Int}, all.length < n → combos n all = []
  | 0, _, h => absurd h (by omega)
  | _ + 1, [], _ => rfl
  | n + 1, x :: r, h => by
    simp at h
    unfold combos
    rw [combos_long (n := n) (by omega), combos_long (n := n + 1) (by omega)]
    rfl
theorem lists_four (all : List Int) : listsL all 3 = listsTo all 4 := by
  show listsTo all (min 3 all.length + 1) = listsTo all 4
  have key : ∀ m, all.length + 1 ≤ m → listsTo all m = listsTo all (all.length + 1) := by
    intro m h
    induction m with
    | zero => omega
    | succ m ih =>
      by_cases hm : all.length + 1 = m + 1
      · rw [hm]
      · rw [listsTo_succ, tails, combos_long (by omega), ih (by omega)]; simp
  by_cases h3 : 3 ≤ all.length
  · rw [Nat.min_eq_left h3]
  · rw [Nat.min_eq_right (by omega), key 4 (by omega)]
theorem find_four {all : List Int} {p : List Int → Bool} {n : Nat} (hn : n < 4) (h0 : (listsTo all n).find? p = none) {x : List Int} (hx : (tails n [] all).find? p = some x) : (listsL all 3).find? p = some x := by
  rw [lists_four]
  have h1 : (listsTo all (n + 1)).find? p = some x := by rw [listsTo_succ, List.find?_append, h0, hx]; rfl
  obtain ⟨r, hr⟩ := listsTo_pre all (show n + 1 ≤ 4 by omega)
  rw [← hr, List.find?_append, h1]
  rfl

set_option maxHeartbeats 1000000 in
theorem refWrong_any (b : Bale) (dv wv : Value) (w : World) (hd : SlD w dv b.draws) (hw : SlW w wv b.weighs) :
    Calls Tryd.prog 40 #[valB b dv wv] w fun e w' => ∃ v1 v2, e = .returned (.tuple #[v1, v2, .int .i64 (wrongE b)]) ∧ SlI w' v1 (wrongL b) ∧ SlI w' v2 (wrongK b) ∧ Ext w w' := by
  have HD := Lib.hid hd
  have HW := Lib.hid hw
  obtain ⟨A, n, cp, rfl, hn, hlc, hcm⟩ := hd.form
  obtain ⟨A2, n2, cp2, rfl, hn2, hlc2, hcm2⟩ := hw.form
  clear hd hw
  go_enter Tryd.func40, Tryd.ntmps40
  go_wp2_with fail
  refine (refBale_v b _ _ _ (HD.out.ext (Ext.al _ _)) (HW.out.ext (Ext.al _ _))).mono ?_
  rintro e w1 ⟨rfl, hE⟩
  have HE1 := Lib.hid ((Ext.al w _).trans hE)
  have HB1 := Lib.hid (show BaleAt b w.heap.size (.slice A n cp) (.slice A2 n2 cp2) w1 from ⟨(Blk.new _ _ _).ext hE, HD.out.ext ((Ext.al _ _).trans hE), HW.out.ext ((Ext.al _ _).trans hE)⟩)
  clear hE
  cases hv : valid b with
  | false =>
    have HV := Lib.hid (show wrongE b = 30 by unfold wrongE; rw [hv]; rfl)
    have HV1 := Lib.hid (show wrongL b = [] by unfold wrongL; rw [HV.out]; rfl)
    have HV2 := Lib.hid (show wrongK b = [] by unfold wrongK; rw [HV.out]; rfl)
    clear hv
    go_wp2
    refine bodyPost_ret (v := .tuple #[.slice none 0 0, .slice none 0 0, .int .i64 30]) (by simp [results, Tryd.results40, go_sem]) rfl ?_
    exact ⟨_, _, by rw [HV.out], by rw [HV1.out]; exact Sl.nil _, by rw [HV2.out]; exact Sl.nil _, HE1.out⟩
  | true =>
    have HV := Lib.hid hv
    have HBD := Lib.hid (valid_bds hv)
    have HVE := Lib.hid (show wrongE b = if (wrongD b).isSome && (wrongW b).isSome then 0 else 4 by unfold wrongE; rw [hv]; rfl)
    have HVL := Lib.hid (show wrongL b = if wrongE b = 0 then (wrongD b).getD [] else [] from rfl)
    have HVK := Lib.hid (show wrongK b = if wrongE b = 0 then (wrongW b).getD [] else [] from rfl)
    clear hv
    go_wp2
    go_loopg [5, 6, 7, 8, 9, 10] 4 (fun gg s5 _ _ _ _ _ wr => ∃ j : Nat, j ≤ 4 ∧ 4 - j ≤ gg ∧ s5 = .int .i64 (j : Int) ∧ Aside ((listsTo (b.draws.map (·.number)) j).find? (fun l => grown (spans (withB b l []))) = none) ∧ Aside (Ext w1 wr))
    case atStart => exact ⟨0, by omega, by omega, rfl, rfl, Ext.refl _⟩
    case round =>
      obtain ⟨j, hj, hgg, rfl, FN, EX⟩ := hrel
      by_cases hj4 : j < 4
      · have hjz : (j : Int) ≤ 3 := by omega
        have HB2 := Lib.hid (HB1.out.ext EX.out)
        have x0 := HB2.out.k.cell 0
        have x1 := HB2.out.k.cell 1
        have x2 := HB2.out.k.cell 2
        have x3 := HB2.out.k.cell 3
        have x4 := HB2.out.k.cell 4
        have x5 := HB2.out.k.cell 5
        have xl := HB2.out.k.lt
        simp at x0 x1 x2 x3 x4 x5
        have HSJ := Lib.hid (struck_any b HBD.out j [] none 0 0 0 wr.heap.size _ _ wr (Nat.le_refl _) (by simp; omega) (by omega) HB2.out.d HB2.out.w (Own.nil _ _))
        rw [List.drop_zero] at HSJ
        have HTL := Lib.hid (listsTo_succ (b.draws.map (·.number)) j)
        go_wp2_with fail
        refine HSJ.out.mono ?_
        rintro e w3 ⟨u, rfl, hu, hE3⟩
        have HE3 := Lib.hid (EX.out.trans hE3)
        have HU := Lib.hid hu
        clear hE3 hu HSJ x0 x1 x2 x3 x4 x5 xl
        cases hr : (tails j [] (b.draws.map (·.number))).find? (fun l => grown (spans (withB b l []))) with
        | none =>
          have HFN := Lib.hid (show (listsTo (b.draws.map (·.number)) (j + 1)).find? (fun l => grown (spans (withB b l []))) = none by rw [HTL.out, List.find?_append, FN.out, hr]; rfl)
          simp only [Option.isSome_none]
          go_wp2
          go_roundg (4 - (j + 1))
          case measure => omega
          case rel => exact ⟨j + 1, by omega, by omega, by simp, HFN.out, HE3.out⟩
        | some ld =>
          have HWD := Lib.hid (show wrongD b = some ld from find_four hj4 FN.out hr)
          have HUL := Lib.hid (show SlI w3 u ld from (HU.out ld hr).sl (fun _ => rfl))
          simp only [Option.isSome_some]
          clear hr HU
          obtain ⟨wo, hwo⟩ : ∃ wo : World, wo = w3 := ⟨_, rfl⟩
          subst hwo
          go_wp2
          go_loopg [8, 9, 10] 4 (fun gg s8 _ _ wr => ∃ m : Nat, m ≤ 4 ∧ 4 - m ≤ gg ∧ s8 = .int .i64 (m : Int) ∧ Aside ((listsTo (b.weighs.map (·.number)) m).find? (fun l => decide (0 < (dries (withB b [] l)).length)) = none) ∧ Aside (Ext wo wr))
          case atStart => exact ⟨0, by omega, by omega, rfl, rfl, Ext.refl _⟩
          case round =>
            obtain ⟨m, hm, hgm, rfl, GN, EX2⟩ := hrel
            by_cases hm4 : m < 4
            · have hmz : (m : Int) ≤ 3 := by omega
              have HB4 := Lib.hid (HB1.out.ext (HE3.out.trans EX2.out))
              have x0 := HB4.out.k.cell 0
              have x1 := HB4.out.k.cell 1
              have x2 := HB4.out.k.cell 2
              have x3 := HB4.out.k.cell 3
              have x4 := HB4.out.k.cell 4
              have x5 := HB4.out.k.cell 5
              have xl := HB4.out.k.lt
              simp at x0 x1 x2 x3 x4 x5
              have HSJ := Lib.hid (lifted_any b HBD.out m [] none 0 0 0 wr.heap.size _ _ wr (Nat.le_refl _) (by simp; omega) (by omega) HB4.out.d HB4.out.w (Own.nil _ _))
              rw [List.drop_zero] at HSJ
              have HTM := Lib.hid (listsTo_succ (b.weighs.map (·.number)) m)
              go_wp2_with fail
              refine HSJ.out.mono ?_
              rintro e w5 ⟨u5, rfl, hu5, hE5⟩
              have HE5 := Lib.hid (EX2.out.trans hE5)
              have HU5 := Lib.hid hu5
              clear hE5 hu5 HSJ x0 x1 x2 x3 x4 x5 xl
              cases hr : (tails m [] (b.weighs.map (·.number))).find? (fun l => decide (0 < (dries (withB b [] l)).length)) with
              | none =>
                have HGN := Lib.hid (show (listsTo (b.weighs.map (·.number)) (m + 1)).find? (fun l => decide (0 < (dries (withB b [] l)).length)) = none by rw [HTM.out, List.find?_append, GN.out, hr]; rfl)
                simp only [Option.isSome_none]
                go_wp2
                go_roundg (4 - (m + 1))
                case measure => omega
                case rel => exact ⟨m + 1, by omega, by omega, by simp, HGN.out, HE5.out⟩
              | some lw =>
                have HWW := Lib.hid (show wrongW b = some lw from find_four hm4 GN.out hr)
                have HE := Lib.hid (show wrongE b = 0 by rw [HVE.out, HWD.out, HWW.out]; rfl)
                have HU6 := Lib.hid (show SlI w5 u5 lw from (HU5.out lw hr).sl (fun _ => rfl))
                have HU7 := Lib.hid (HUL.out.ext HE5.out)
                simp only [Option.isSome_some]
                clear hr HU5
                go_wp2
                refine bodyPost_ret (v := .tuple #[u, u5, .int .i64 0]) (by simp [results, Tryd.results40, go_sem]) rfl ?_
                exact ⟨_, _, by rw [HE.out], by rw [HVL.out, HE.out, HWD.out]; exact HU7.out, by rw [HVK.out, HE.out, HWW.out]; exact HU6.out, HE1.out.trans (HE3.out.trans HE5.out)⟩
            · have HWW := Lib.hid (show wrongW b = none by unfold wrongW; rw [lists_four]; have := GN.out; rwa [show m = 4 by omega] at this)
              have HE := Lib.hid (show wrongE b = 4 by rw [HVE.out, HWD.out, HWW.out]; rfl)
              have hm3 : (3 : Int) < (m : Int) := by omega
              go_wp2
              refine bodyPost_ret (v := .tuple #[.slice none 0 0, .slice none 0 0, .int .i64 4]) (by simp [results, Tryd.results40, go_sem]) rfl ?_
              exact ⟨_, _, by rw [HE.out], by rw [HVL.out, HE.out]; exact Sl.nil _, by rw [HVK.out, HE.out]; exact Sl.nil _, HE1.out.trans (HE3.out.trans EX2.out)⟩
      · have HWD := Lib.hid (show wrongD b = none by unfold wrongD; rw [lists_four]; have := FN.out; rwa [show j = 4 by omega] at this)
        have HE := Lib.hid (show wrongE b = 4 by rw [HVE.out, HWD.out]; rfl)
        have hj3 : (3 : Int) < (j : Int) := by omega
        go_wp2
        refine bodyPost_ret (v := .tuple #[.slice none 0 0, .slice none 0 0, .int .i64 4]) (by simp [results, Tryd.results40, go_sem]) rfl ?_
        exact ⟨_, _, by rw [HE.out], by rw [HVL.out, HE.out]; exact Sl.nil _, by rw [HVK.out, HE.out]; exact Sl.nil _, HE1.out.trans EX.out⟩
end Go.Proofs.YtcoiahjehlplfaaDoor
/- middlinglaw03.CoreChanges: the walk. -/
namespace Go.Proofs.YtcoiahjehlplfaaDoor
open Go.RowKit Go.Shelf Go.Lib
set_option maxRecDepth 100000
set_option linter.unusedSimpArgs false

/-- What stands still while the law runs. -/
structure Cs (b : Bale) (x : Draw) (y : Weigh) (l k : List Int) (w : World) (q : Nat) (dv wv lv kv d2 w2 mv hv : Value) (W : World) : Prop where
  s : St b w w.heap.size q dv wv d2 w2 W
  x : Blk W (w.heap.size + 1) 63 #[.int .i64 x.number, .int .i64 x.layer, .int .i64 x.grade.lo, .int .i64 x.grade.hi]
  y : Blk W (w.heap.size + 2) 65 #[.int .i64 y.number, .int .i64 y.pounds, .int .i64 y.damp.lo, .int .i64 y.damp.hi]
  al : SlI W lv l
  ak : SlI W kv k
  m : SlI W mv l
  h : SlI W hv k
theorem Cs.ext {b : Bale} {x : Draw} {y : Weigh} {l k : List Int} {w : World} {q : Nat} {dv wv lv kv d2 w2 mv hv : Value} {W W' : World} (h : Cs b x y l k w q dv wv lv kv d2 w2 mv hv W) (e : Ext W W') : Cs b x y l k w q dv wv lv kv d2 w2 mv hv W' :=
  ⟨h.s.ext e, h.x.ext e, h.y.ext e, h.al.ext e, h.ak.ext e, h.m.ext e, h.h.ext e⟩
/-- A bale that was returned, in its box: its lists lie in the blocks from lo on below the box. -/
structure Bx (B : Bale) (lo g : Nat) (dv wv : Value) (W : World) : Prop where
  b : Blk W g 27 #[.int .i64 B.id, .int .i64 B.layers, .int .i64 B.dry.lo, .int .i64 B.dry.hi, dv, wv]
  d : Own encD 63 4 W lo dv B.draws
  w : Own encW 65 4 W lo wv B.weighs
  td : ∀ r, dv.ownBlock = some r → r < g
  tw : ∀ r, wv.ownBlock = some r → r < g
theorem Bx.ext {B : Bale} {lo g : Nat} {dv wv : Value} {W W' : World} (h : Bx B lo g dv wv W) (e : Ext W W') : Bx B lo g dv wv W' := ⟨h.b.ext e, h.d.ext e, h.w.ext e, h.td, h.tw⟩
theorem Bx.gap {B : Bale} {lo g lo' hi : Nat} {dv wv : Value} {W W' : World} (h : Bx B lo g dv wv W) (e : Gap lo' hi W W') (h1 : hi ≤ lo) (h2 : hi ≤ g) : Bx B lo g dv wv W' := ⟨e.blk h.b (.inr h2), e.own h.d h1, e.own h.w h1, h.td, h.tw⟩
theorem Bx.cells {B : Bale} {lo g : Nat} {dv wv : Value} {W : World} (h : Bx B lo g dv wv W) :
    W.cell? ⟨g, 0, none⟩ = some (.int .i64 B.id) ∧ W.cell? ⟨g, 1, none⟩ = some (.int .i64 B.layers) ∧ W.cell? ⟨g, 2, none⟩ = some (.int .i64 B.dry.lo) ∧ W.cell? ⟨g, 3, none⟩ = some (.int .i64 B.dry.hi) ∧ W.cell? ⟨g, 4, none⟩ = some dv ∧ W.cell? ⟨g, 5, none⟩ = some wv ∧ g < W.heap.size :=
  ⟨h.b.cell 0, h.b.cell 1, h.b.cell 2, h.b.cell 3, h.b.cell 4, h.b.cell 5, h.b.lt⟩
theorem TwinV.form {B : Bale} {lo : Nat} {v : Value} {W : World} (h : TwinV B lo v W) : ∃ A n c A2 n2 c2, v = .agg #[.int .i64 B.id, .int .i64 B.layers, .int .i64 B.dry.lo, .int .i64 B.dry.hi, .slice A n c, .slice A2 n2 c2] ∧
    Bx B lo W.heap.size (.slice A n c) (.slice A2 n2 c2) (W.alloc (.cells #[.int .i64 B.id, .int .i64 B.layers, .int .i64 B.dry.lo, .int .i64 B.dry.hi, .slice A n c, .slice A2 n2 c2] 27)) ∧
    Ext W (W.alloc (.cells #[.int .i64 B.id, .int .i64 B.layers, .int .i64 B.dry.lo, .int .i64 B.dry.hi, .slice A n c, .slice A2 n2 c2] 27)) := by
  obtain ⟨dv, wv, rfl, o1, o2⟩ := h
  obtain ⟨A, n, c, rfl, -, -, -⟩ := (show SlD W dv B.draws from o1.sl (fun _ => rfl)).form
  obtain ⟨A2, n2, c2, rfl, -, -, -⟩ := (show SlW W wv B.weighs from o2.sl (fun _ => rfl)).form
  exact ⟨A, n, c, A2, n2, c2, rfl, ⟨Blk.new _ _ _, o1.alloc _, o2.alloc _, own_top o1, own_top o2⟩, Ext.al _ _⟩

theorem putB_len (b : Bale) (x : Draw) : (putB b x).draws.length ≤ 1000 ∧ (putB b x).weighs.length ≤ 1000 := by
  unfold putB
  split
  · rename_i h
    unfold putE at h
    split at h
    · split at h
      · cases h
      · split at h
        · rename_i hv
          have := valid_bds hv
          exact ⟨by have := this.nd; omega, by have := this.nw; omega⟩
        · cases h
    · cases h
  · exact ⟨by simp [noB], by simp [noB]⟩
theorem liftB_len (b : Bale) (x : Weigh) : (liftB b x).draws.length ≤ 1000 ∧ (liftB b x).weighs.length ≤ 1000 := by
  unfold liftB
  split
  · rename_i h
    unfold liftE at h
    split at h
    · split at h
      · cases h
      · split at h
        · rename_i hv
          have := valid_bds hv
          exact ⟨by have := this.nd; omega, by have := this.nw; omega⟩
        · cases h
    · cases h
  · exact ⟨by simp [noB], by simp [noB]⟩
theorem strikeB_len (b : Bale) (l k : List Int) (hb : b.draws.length ≤ 20 ∧ b.weighs.length ≤ 16) : (strikeB b l k).draws.length ≤ 1000 ∧ (strikeB b l k).weighs.length ≤ 1000 := by
  unfold strikeB
  split
  · have h1 : (withB b l k).draws.length ≤ b.draws.length := List.length_filter_le _ _
    have h2 : (withB b l k).weighs.length ≤ b.weighs.length := List.length_filter_le _ _
    exact ⟨by omega, by omega⟩
  · exact ⟨by simp [noB], by simp [noB]⟩

set_option maxHeartbeats 4000000 in
theorem changesLaw_any (b : Bale) (x : Draw) (y : Weigh) (l k : List Int) (dv wv lv kv : Value) (w : World) (hT : Tab w) (hd : SlD w dv b.draws) (hw : SlW w wv b.weighs) (hl : SlI w lv l) (hk : SlI w kv k) :
    Calls Tryd.prog 6 #[valB b dv wv, valD x, valW y, lv, kv] w fun e w' => e = .returned (.bool true) ∧ Ext w w' := by
  have HT := Lib.hid hT
  have HD := Lib.hid hd
  have HW := Lib.hid hw
  have HL := Lib.hid hl; have HK := Lib.hid hk
  obtain ⟨A, n, cp, rfl, hn, hlc, hcm⟩ := hd.form
  obtain ⟨A2, n2, cp2, rfl, hn2, hlc2, hcm2⟩ := hw.form
  obtain ⟨A3, n3, cp3, rfl, hn3, hlc3, hcm3⟩ := hl.form
  obtain ⟨A4, n4, cp4, rfl, hn4, hlc4, hcm4⟩ := hk.form
  clear hd hw hT hl hk
  go_enter Tryd.func6, Tryd.ntmps6
  dsimp only [valD, valW]
  go_wp2_with fail
  generalize hw0 : ((w.alloc (.cells #[.int .i64 b.id, .int .i64 b.layers, .int .i64 b.dry.lo, .int .i64 b.dry.hi, .slice A n cp, .slice A2 n2 cp2] 27)).alloc (.cells #[.int .i64 x.number, .int .i64 x.layer, .int .i64 x.grade.lo, .int .i64 x.grade.hi] 63)).alloc (.cells #[.int .i64 y.number, .int .i64 y.pounds, .int .i64 y.damp.lo, .int .i64 y.damp.hi] 65) = w0
  have HE0 := Lib.hid (show Ext w w0 from hw0 ▸ ((Ext.al _ _).alloc _).alloc _)
  have HB0 := Lib.hid (show Blk w0 w.heap.size 27 #[.int .i64 b.id, .int .i64 b.layers, .int .i64 b.dry.lo, .int .i64 b.dry.hi, .slice A n cp, .slice A2 n2 cp2] from hw0 ▸ ((Blk.new _ _ _).alloc _).alloc _)
  have HX0 := Lib.hid (show Blk w0 (w.heap.size + 1) 63 #[.int .i64 x.number, .int .i64 x.layer, .int .i64 x.grade.lo, .int .i64 x.grade.hi] from hw0 ▸ (Blk.at_ (by simp)).alloc _)
  have HY0 := Lib.hid (show Blk w0 (w.heap.size + 2) 65 #[.int .i64 y.number, .int .i64 y.pounds, .int .i64 y.damp.lo, .int .i64 y.damp.hi] from hw0 ▸ Blk.at_ (by simp))
  clear hw0
  refine (great_any b _ _ _ (HD.out.ext HE0.out) (HW.out.ext HE0.out)).mono ?_
  rintro e w1 ⟨rfl, hE⟩
  have HE1 := Lib.hid (HE0.out.trans hE)
  have HB1 := Lib.hid (HB0.out.ext hE); have HX1 := Lib.hid (HX0.out.ext hE); have HY1 := Lib.hid (HY0.out.ext hE)
  clear hE HB0 HX0 HY0
  cases hg : greatB b with
  | true =>
    go_wp2
    go_ret
    exact ⟨rfl, HE1.out⟩
  | false =>
    have hlen : b.draws.length ≤ 20 ∧ b.weighs.length ≤ 16 := by
      unfold greatB at hg; simp at hg; omega
    clear hg
    have HLE := Lib.hid hlen; clear hlen
    by_cases h3 : 20 < n3
    · have h3z : (20 : Int) < (n3 : Int) := by omega
      go_wp2
      go_ret
      exact ⟨rfl, HE1.out⟩
    · have h3z : ¬ (20 : Int) < (n3 : Int) := by omega
      by_cases h4 : 20 < n4
      · have h4z : (20 : Int) < (n4 : Int) := by omega
        go_wp2
        go_ret
        exact ⟨rfl, HE1.out⟩
      · have h4z : ¬ (20 : Int) < (n4 : Int) := by omega
        have HLL := Lib.hid (show l.length ≤ 20 ∧ k.length ≤ 20 by have := hn3.out; have := hn4.out; omega)
        have x0 := HB1.out.cell 0
        have x1 := HB1.out.cell 1
        have x2 := HB1.out.cell 2
        have x3 := HB1.out.cell 3
        have x4 := HB1.out.cell 4
        have x5 := HB1.out.cell 5
        have xl := HB1.out.lt
        simp at x0 x1 x2 x3 x4 x5
        go_wp2_with fail
        clear h3 h4 h3z h4z x0 x1 x2 x3 x4 x5 xl
        refine (twin_any b _ _ _ (HD.out.ext HE1.out) (HW.out.ext HE1.out) (by have := HLE.out; omega) (by have := HLE.out; omega)).mono ?_
        rintro e w2 ⟨⟨v, rfl, tv⟩, hE2⟩
        obtain ⟨dv, wv, rfl, o1, o2⟩ := tv
        obtain ⟨Ad, nd, cd, rfl, -, -, -⟩ := (show SlD w2 dv b.draws from o1.sl (fun _ => rfl)).form
        obtain ⟨Aw, nw, cw, rfl, -, -, -⟩ := (show SlW w2 wv b.weighs from o2.sl (fun _ => rfl)).form
        have HTD := Lib.hid (show SlD w2 (.slice Ad nd cd) b.draws from o1.sl (fun _ => rfl))
        have HTW := Lib.hid (show SlW w2 (.slice Aw nw cw) b.weighs from o2.sl (fun _ => rfl))
        have HE2 := Lib.hid (HE1.out.trans hE2)
        have HBx := Lib.hid (HB1.out.ext hE2); have HX2 := Lib.hid (HX1.out.ext hE2); have HY2 := Lib.hid (HY1.out.ext hE2)
        clear o1 o2 hE2 HB1 HX1 HY1 HE0 HE1
        dsimp only [valB]
        go_wp2_with (at_builtin; refine wpList_copyI rfl (.tmp 45) (.tmp 46) rfl (base := w2.heap.size) (g := w2.heap.size) rfl rfl (Blk.new _ _ _) (Nat.le_refl _) (by simp) ((HL.out.ext HE2.out).ext (Ext.al _ _)) (by have := HLL.out; omega) ?_)
        intro v1 w3 hown hext
        have HM := Lib.hid hown
        have hE := (Ext.al w2 (.cells #[] 3)).trans hext
        have HE3 := Lib.hid (HE2.out.trans hE)
        have HB3 := Lib.hid (HBx.out.ext hE); have HX3 := Lib.hid (HX2.out.ext hE); have HY3 := Lib.hid (HY2.out.ext hE)
        have HTD3 := Lib.hid (HTD.out.ext hE); have HTW3 := Lib.hid (HTW.out.ext hE)
        clear hown hext hE HE2 HBx HX2 HY2 HTD HTW
        go_wp2_with (at_builtin; refine wpList_copyI rfl (.tmp 48) (.tmp 49) rfl (base := w3.heap.size) (g := w3.heap.size) rfl rfl (Blk.new _ _ _) (Nat.le_refl _) (by simp) ((HK.out.ext HE3.out).ext (Ext.al _ _)) (by have := HLL.out; omega) ?_)
        intro v2 w4 hown hext
        have HH := Lib.hid hown
        have hE := (Ext.al w3 (.cells #[] 3)).trans hext
        have HM4 := Lib.hid (HM.out.ext hE)
        have HE4 := Lib.hid (HE3.out.trans hE)
        have HB4 := Lib.hid (HB3.out.ext hE); have HX4 := Lib.hid (HX3.out.ext hE); have HY4 := Lib.hid (HY3.out.ext hE)
        have HTD4 := Lib.hid (HTD3.out.ext hE); have HTW4 := Lib.hid (HTW3.out.ext hE)
        clear hown hext hE HE3 HB3 HX3 HY3 HTD3 HTW3 HM
        go_wp2_with fail
        have S4 := Lib.hid (show Cs b x y l k w w4.heap.size (.slice A n cp) (.slice A2 n2 cp2) (.slice A3 n3 cp3) (.slice A4 n4 cp4) (.slice Ad nd cd) (.slice Aw nw cw) v1 v2 (w4.alloc (.cells #[.int .i64 b.id, .int .i64 b.layers, .int .i64 b.dry.lo, .int .i64 b.dry.hi, .slice Ad nd cd, .slice Aw nw cw] 27)) from
          ⟨⟨HE4.out.alloc _, HB4.out.alloc _, Blk.new _ _ _, (HT.out.ext HE4.out).ext (Ext.al _ _), (HD.out.ext HE4.out).ext (Ext.al _ _), (HW.out.ext HE4.out).ext (Ext.al _ _), HTD4.out.ext (Ext.al _ _), HTW4.out.ext (Ext.al _ _)⟩, HX4.out.alloc _, HY4.out.alloc _, (HL.out.ext HE4.out).ext (Ext.al _ _), (HK.out.ext HE4.out).ext (Ext.al _ _), (show SlI w4 v1 l from HM4.out.1.sl (fun _ => rfl)).ext (Ext.al _ _), (show SlI w4 v2 k from HH.out.1.sl (fun _ => rfl)).ext (Ext.al _ _)⟩)
        clear HT HD HW HL HK HB4 HX4 HY4 HTD4 HTW4 HM4 HH HE4
        refine (wrong_any b _ _ _ S4.out.s.t S4.out.s.b1 S4.out.s.b2).mono ?_
        rintro e w5 ⟨u1, u2, rfl, hu1, hu2, hE⟩
        have S5 := Lib.hid (S4.out.ext hE); clear S4 hE
        have HU1 := Lib.hid hu1; have HU2 := Lib.hid hu2; clear hu1 hu2
        obtain ⟨⟨x0, x1, x2, x3, x4, x5⟩, -, xl, -⟩ := S5.out.s.cells
        go_wp2_with fail
        clear x0 x1 x2 x3 x4 x5 xl
        refine (refWrong_any b _ _ _ S5.out.s.a1 S5.out.s.a2).mono ?_
        rintro e w6 ⟨u3, u4, rfl, hu3, hu4, hE⟩
        have S6 := Lib.hid (S5.out.ext hE); clear S5
        have HV1 := Lib.hid (HU1.out.ext hE); have HV2 := Lib.hid (HU2.out.ext hE)
        have HU3 := Lib.hid hu3; have HU4 := Lib.hid hu4; clear hu3 hu4 hE HU1 HU2
        go_wp2_with fail
        refine (sameInts_any (wrongL b) _ _ _ HV1.out HU3.out).mono ?_
        rintro e w7 ⟨rfl, hE⟩
        have S7 := Lib.hid (S6.out.ext hE); clear S6
        have HV2' := Lib.hid (HV2.out.ext hE); have HU4' := Lib.hid (HU4.out.ext hE); clear hE HU4 HV2 HV1 HU3
        go_wp2_with fail
        refine (sameInts_any (wrongK b) _ _ _ HV2'.out HU4'.out).mono ?_
        rintro e w8 ⟨rfl, hE⟩
        have S8 := Lib.hid (S7.out.ext hE); clear S7 hE HU4' HV2'
        obtain ⟨-, ⟨y0, y1, y2, y3, y4, y5⟩, -, yl⟩ := S8.out.s.cells
        have a0 := S8.out.x.cell 0
        have a1 := S8.out.x.cell 1
        have a2 := S8.out.x.cell 2
        have a3 := S8.out.x.cell 3
        have al := S8.out.x.lt
        simp at a0 a1 a2 a3
        go_wp2_with fail
        clear y0 y1 y2 y3 y4 y5 yl a0 a1 a2 a3 al
        refine (f41_any b x _ _ _ S8.out.s.t S8.out.s.b1 S8.out.s.b2).mono ?_
        rintro e w9 ⟨⟨v, rfl, tv⟩, hE⟩
        obtain ⟨A1q, n1q, c1q, A2q, n2q, c2q, rfl, bx, he⟩ := tv.form
        replace hE := hE.trans he
        have E8 := Lib.hid (Ext.refl w8)
        have Bq := Lib.hid bx
        have S9 := Lib.hid (S8.out.ext hE)
        replace E8 := Lib.hid (E8.out.trans hE)
        clear tv bx hE he
        obtain ⟨⟨x0, x1, x2, x3, x4, x5⟩, -, xl, -⟩ := S9.out.s.cells
        have a0 := S9.out.x.cell 0
        have a1 := S9.out.x.cell 1
        have a2 := S9.out.x.cell 2
        have a3 := S9.out.x.cell 3
        have al := S9.out.x.lt
        simp at a0 a1 a2 a3
        go_wp2_with fail
        clear x0 x1 x2 x3 x4 x5 xl a0 a1 a2 a3 al
        refine (f42_any b x _ _ _ S9.out.s.a1 S9.out.s.a2).mono ?_
        rintro e w10 ⟨⟨v, rfl, tv⟩, hE⟩
        rw [← (put_law b x).2] at tv
        rw [← (put_law b x).1]
        obtain ⟨A1r, n1r, c1r, A2r, n2r, c2r, rfl, bx, he⟩ := tv.form
        replace hE := hE.trans he
        replace Bq := Lib.hid (Bq.out.ext hE)
        have Br := Lib.hid bx
        have S10 := Lib.hid (S9.out.ext hE)
        replace E8 := Lib.hid (E8.out.trans hE)
        clear S9
        clear tv bx hE he
        obtain ⟨-, ⟨y0, y1, y2, y3, y4, y5⟩, -, yl⟩ := S10.out.s.cells
        have a0 := S10.out.y.cell 0
        have a1 := S10.out.y.cell 1
        have a2 := S10.out.y.cell 2
        have a3 := S10.out.y.cell 3
        have al := S10.out.y.lt
        simp at a0 a1 a2 a3
        go_wp2_with fail
        clear y0 y1 y2 y3 y4 y5 yl a0 a1 a2 a3 al
        refine (f43_any b y _ _ _ S10.out.s.t S10.out.s.b1 S10.out.s.b2).mono ?_
        rintro e w11 ⟨⟨v, rfl, tv⟩, hE⟩
        obtain ⟨A1s, n1s, c1s, A2s, n2s, c2s, rfl, bx, he⟩ := tv.form
        have Zqs := Lib.hid (show _ ∧ _ from ⟨Nat.le_of_lt Bq.out.b.lt, Nat.le_trans (Nat.le_of_lt Bq.out.b.lt) hE.size⟩)
        replace hE := hE.trans he
        have Ls := Lib.hid E8.out.size
        replace Bq := Lib.hid (Bq.out.ext hE)
        replace Br := Lib.hid (Br.out.ext hE)
        have Bs := Lib.hid bx
        have S11 := Lib.hid (S10.out.ext hE)
        replace E8 := Lib.hid (E8.out.trans hE)
        clear S10
        clear tv bx hE he
        obtain ⟨⟨x0, x1, x2, x3, x4, x5⟩, -, xl, -⟩ := S11.out.s.cells
        have a0 := S11.out.y.cell 0
        have a1 := S11.out.y.cell 1
        have a2 := S11.out.y.cell 2
        have a3 := S11.out.y.cell 3
        have al := S11.out.y.lt
        simp at a0 a1 a2 a3
        go_wp2_with fail
        clear x0 x1 x2 x3 x4 x5 xl a0 a1 a2 a3 al
        refine (f44_any b y _ _ _ S11.out.s.a1 S11.out.s.a2).mono ?_
        rintro e w12 ⟨⟨v, rfl, tv⟩, hE⟩
        rw [← (lift_law b y).2] at tv
        rw [← (lift_law b y).1]
        obtain ⟨A1t, n1t, c1t, A2t, n2t, c2t, rfl, bx, he⟩ := tv.form
        replace hE := hE.trans he
        replace Bq := Lib.hid (Bq.out.ext hE)
        replace Br := Lib.hid (Br.out.ext hE)
        replace Bs := Lib.hid (Bs.out.ext hE)
        have Bt := Lib.hid bx
        have S12 := Lib.hid (S11.out.ext hE)
        replace E8 := Lib.hid (E8.out.trans hE)
        clear S11
        clear tv bx hE he
        obtain ⟨-, ⟨y0, y1, y2, y3, y4, y5⟩, -, yl⟩ := S12.out.s.cells
        go_wp2_with fail
        clear y0 y1 y2 y3 y4 y5 yl
        refine (strike_any b l k _ _ _ _ _ S12.out.s.t S12.out.s.b1 S12.out.s.b2 S12.out.m S12.out.h (by have := HLL.out; omega) (by have := HLL.out; omega)).mono ?_
        rintro e w13 ⟨⟨v, rfl, tv⟩, hE⟩
        obtain ⟨A1u, n1u, c1u, A2u, n2u, c2u, rfl, bx, he⟩ := tv.form
        have Zqu := Lib.hid (show _ ∧ _ from ⟨Nat.le_of_lt Bq.out.b.lt, Nat.le_trans (Nat.le_of_lt Bq.out.b.lt) hE.size⟩)
        have Zsu := Lib.hid (show _ ∧ _ from ⟨Nat.le_of_lt Bs.out.b.lt, Nat.le_trans (Nat.le_of_lt Bs.out.b.lt) hE.size⟩)
        replace hE := hE.trans he
        have Lu := Lib.hid E8.out.size
        replace Bq := Lib.hid (Bq.out.ext hE)
        replace Br := Lib.hid (Br.out.ext hE)
        replace Bs := Lib.hid (Bs.out.ext hE)
        replace Bt := Lib.hid (Bt.out.ext hE)
        have Bu := Lib.hid bx
        have S13 := Lib.hid (S12.out.ext hE)
        replace E8 := Lib.hid (E8.out.trans hE)
        clear S12
        clear tv bx hE he
        obtain ⟨⟨x0, x1, x2, x3, x4, x5⟩, -, xl, -⟩ := S13.out.s.cells
        go_wp2_with fail
        clear x0 x1 x2 x3 x4 x5 xl
        refine (refStrike_any b l k _ _ _ _ _ S13.out.s.a1 S13.out.s.a2 S13.out.al S13.out.ak (by have := HLL.out; omega) (by have := HLL.out; omega)).mono ?_
        rintro e w14 ⟨⟨v, rfl, tv⟩, hE⟩
        rw [← (strike_law b l k).2] at tv
        rw [← (strike_law b l k).1]
        obtain ⟨A1v, n1v, c1v, A2v, n2v, c2v, rfl, bx, he⟩ := tv.form
        replace hE := hE.trans he
        replace Bq := Lib.hid (Bq.out.ext hE)
        replace Br := Lib.hid (Br.out.ext hE)
        replace Bs := Lib.hid (Bs.out.ext hE)
        replace Bt := Lib.hid (Bt.out.ext hE)
        replace Bu := Lib.hid (Bu.out.ext hE)
        have Bv := Lib.hid bx
        have S14 := Lib.hid (S13.out.ext hE)
        replace E8 := Lib.hid (E8.out.trans hE)
        clear S13
        clear tv bx hE he
        obtain ⟨p0, p1, p2, p3, p4, p5, pl⟩ := Bq.out.cells
        obtain ⟨r0, r1, r2, r3, r4, r5, rl⟩ := Br.out.cells
        go_wp2_with fail
        clear p0 p1 p2 p3 p4 p5 pl r0 r1 r2 r3 r4 r5 rl
        refine (same_any _ _ _ _ _ _ (Bq.out.d.sl fun _ => rfl) (Bq.out.w.sl fun _ => rfl) (Br.out.d.sl fun _ => rfl) (Br.out.w.sl fun _ => rfl)).mono ?_
        rintro e w15 ⟨rfl, hE⟩
        replace Bq := Lib.hid (Bq.out.ext hE)
        replace Bs := Lib.hid (Bs.out.ext hE)
        replace Bt := Lib.hid (Bt.out.ext hE)
        replace Bu := Lib.hid (Bu.out.ext hE)
        replace Bv := Lib.hid (Bv.out.ext hE)
        replace E8 := Lib.hid (E8.out.trans hE)
        clear hE Br
        obtain ⟨p0, p1, p2, p3, p4, p5, pl⟩ := Bs.out.cells
        obtain ⟨r0, r1, r2, r3, r4, r5, rl⟩ := Bt.out.cells
        go_wp2_with fail
        clear p0 p1 p2 p3 p4 p5 pl r0 r1 r2 r3 r4 r5 rl
        refine (same_any _ _ _ _ _ _ (Bs.out.d.sl fun _ => rfl) (Bs.out.w.sl fun _ => rfl) (Bt.out.d.sl fun _ => rfl) (Bt.out.w.sl fun _ => rfl)).mono ?_
        rintro e w16 ⟨rfl, hE⟩
        replace Bq := Lib.hid (Bq.out.ext hE)
        replace Bs := Lib.hid (Bs.out.ext hE)
        replace Bu := Lib.hid (Bu.out.ext hE)
        replace Bv := Lib.hid (Bv.out.ext hE)
        replace E8 := Lib.hid (E8.out.trans hE)
        clear hE Bt
        obtain ⟨p0, p1, p2, p3, p4, p5, pl⟩ := Bu.out.cells
        obtain ⟨r0, r1, r2, r3, r4, r5, rl⟩ := Bv.out.cells
        go_wp2_with fail
        clear p0 p1 p2 p3 p4 p5 pl r0 r1 r2 r3 r4 r5 rl
        refine (same_any _ _ _ _ _ _ (Bu.out.d.sl fun _ => rfl) (Bu.out.w.sl fun _ => rfl) (Bv.out.d.sl fun _ => rfl) (Bv.out.w.sl fun _ => rfl)).mono ?_
        rintro e w17 ⟨rfl, hE⟩
        replace Bq := Lib.hid (Bq.out.ext hE)
        replace Bs := Lib.hid (Bs.out.ext hE)
        replace Bu := Lib.hid (Bu.out.ext hE)
        replace E8 := Lib.hid (E8.out.trans hE)
        clear hE Bv
        obtain ⟨p0, p1, p2, p3, p4, p5, pl⟩ := Bq.out.cells
        go_wp2_with fail
        clear p0 p1 p2 p3 p4 p5 pl
        refine (spoil_any _ _ _ _ _ Bq.out.d Bq.out.w (by have := putB_len b x; omega) (by have := putB_len b x; omega) _ Bq.out.td Bq.out.tw).mono ?_
        rintro e w18 ⟨⟨v, rfl⟩, hE⟩
        replace Bs := Lib.hid (Bs.out.gap hE Zqs.out.1 Zqs.out.2)
        replace Bu := Lib.hid (Bu.out.gap hE Zqu.out.1 Zqu.out.2)
        replace E8 := Lib.hid (hE.ext E8.out (Nat.le_refl _))
        clear hE Bq
        obtain ⟨p0, p1, p2, p3, p4, p5, pl⟩ := Bs.out.cells
        go_wp2_with fail
        clear p0 p1 p2 p3 p4 p5 pl
        refine (spoil_any _ _ _ _ _ Bs.out.d Bs.out.w (by have := liftB_len b y; omega) (by have := liftB_len b y; omega) _ Bs.out.td Bs.out.tw).mono ?_
        rintro e w19 ⟨⟨v, rfl⟩, hE⟩
        replace Bu := Lib.hid (Bu.out.gap hE Zsu.out.1 Zsu.out.2)
        replace E8 := Lib.hid (hE.ext E8.out Ls.out)
        clear hE Bs
        obtain ⟨p0, p1, p2, p3, p4, p5, pl⟩ := Bu.out.cells
        go_wp2_with fail
        clear p0 p1 p2 p3 p4 p5 pl
        refine (spoil_any _ _ _ _ _ Bu.out.d Bu.out.w (by have := strikeB_len b l k HLE.out; omega) (by have := strikeB_len b l k HLE.out; omega) _ Bu.out.td Bu.out.tw).mono ?_
        rintro e w20 ⟨⟨v, rfl⟩, hE⟩
        replace E8 := Lib.hid (hE.ext E8.out Lu.out)
        clear hE Bu
        have S20 := Lib.hid (S8.out.ext E8.out)
        clear E8 S8
        obtain ⟨⟨x0, x1, x2, x3, x4, x5⟩, ⟨y0, y1, y2, y3, y4, y5⟩, xl, yl⟩ := S20.out.s.cells
        go_wp2_with fail
        clear x0 x1 x2 x3 x4 x5 y0 y1 y2 y3 y4 y5 xl yl
        refine (same_any b _ _ _ _ _ S20.out.s.b1 S20.out.s.b2 S20.out.s.a1 S20.out.s.a2).mono ?_
        rintro e w21 ⟨rfl, hE⟩
        have S21 := Lib.hid (S20.out.ext hE); clear S20 hE
        go_wp2_with fail
        refine (sameInts_any l _ _ _ S21.out.m S21.out.al).mono ?_
        rintro e w22 ⟨rfl, hE⟩
        have S22 := Lib.hid (S21.out.ext hE); clear S21 hE
        go_wp2_with fail
        refine (sameInts_any k _ _ _ S22.out.h S22.out.ak).mono ?_
        rintro e w23 ⟨rfl, hE⟩
        have S23 := Lib.hid (S22.out.ext hE); clear S22 hE
        go_wp2
        go_ret
        exact ⟨rfl, S23.out.s.e⟩
end Go.Proofs.YtcoiahjehlplfaaDoor
