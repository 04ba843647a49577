/- The dry weights that can be; whether a bale has a truth: the reference's dries, asked, True and Can. -/
import Derived.Test.YtcoiahjehlplfaaDoorCoreE
namespace Go.Proofs.YtcoiahjehlplfaaDoor
open Go.RowKit Go.Shelf
set_option maxRecDepth 100000

theorem info3x : (Tryd.prog.info? 3).map (fun i => (i.zero, i.size, i.bytes)) = some (some (.int .i64 0), 1, 8) := by kernel_rfl
theorem encI_one : ∀ x : Int, ∀ u ∈ encI x, u.oneCell' = true := fun x u hu => by simp at hu; subst hu; rfl
def driesTo (b : Bale) (k : Nat) : List Int := ((List.range k).map fun (i : Nat) => b.dry.lo + (i : Int)).filter fun d => b.weighs.all (could d)
def dries (b : Bale) : List Int := driesTo b (b.dry.hi - b.dry.lo + 1).toNat
theorem driesTo_succ (b : Bale) (k : Nat) : driesTo b (k + 1) = driesTo b k ++ (if b.weighs.all (could (b.dry.lo + k)) then [b.dry.lo + (k : Int)] else []) := by
  unfold driesTo; rw [List.range_succ, List.map_append, List.filter_append]; simp [List.filter_cons]
theorem driesTo_len (b : Bale) (k : Nat) : (driesTo b k).length ≤ k := by
  unfold driesTo; exact Nat.le_trans (List.length_filter_le _ _) (by simp)
theorem all_snoc {α : Type} (p : α → Bool) (l : List α) (k : Nat) (x : α) (h : l[k]? = some x) : (l.take (k + 1)).all p = ((l.take k).all p && p x) := by
  rw [List.take_add_one, h]; simp

/-- What validity says of the numbers. -/
structure Bds (b : Bale) : Prop where
  l1 : 1 ≤ b.layers
  l5 : b.layers ≤ 5
  lo : 1 ≤ b.dry.lo
  lh : b.dry.lo ≤ b.dry.hi
  hi : b.dry.hi ≤ 600
  nd : b.draws.length ≤ 10
  nw : b.weighs.length ≤ 8
  d : ∀ x ∈ b.draws, 0 ≤ x.layer ∧ x.layer < b.layers ∧ 1 ≤ x.grade.lo ∧ x.grade.lo ≤ x.grade.hi ∧ x.grade.hi ≤ 9
  w : ∀ x ∈ b.weighs, 1 ≤ x.pounds ∧ x.pounds ≤ 1200 ∧ 0 ≤ x.damp.lo ∧ x.damp.lo ≤ x.damp.hi ∧ x.damp.hi ≤ 200
theorem valid_bds {b : Bale} (h : valid b = true) : Bds b := by
  unfold valid chk1 chk2 at h
  simp only [Bool.and_eq_true, Bool.not_eq_true', decide_eq_true_eq, List.any_eq_false] at h
  obtain ⟨⟨⟨h1, h2⟩, h3⟩, ⟨⟨⟨h4, h5⟩, _⟩, _⟩, h6, h7⟩ := h
  unfold rightB at h3
  unfold inB at h1 h2 h3
  simp only [Bool.and_eq_true, decide_eq_true_eq] at h1 h2 h3
  refine ⟨by omega, by omega, by omega, by omega, by omega, by omega, by omega, fun x hx => ?_, fun x hx => ?_⟩
  · have := h6 x hx
    unfold badD rightB inB at this
    simp at this
    omega
  · have := h7 x hx
    unfold badW rightB inB at this
    simp at this
    omega

set_option maxHeartbeats 1000000 in
theorem dries_any (b : Bale) (dv wv : Value) (w : World) (hd : SlD w dv b.draws) (hw : SlW w wv b.weighs) (hb1 : 1 ≤ b.dry.lo) (hb2 : b.dry.lo ≤ b.dry.hi) (hb3 : b.dry.hi ≤ 600)
    (hbw : ∀ x ∈ b.weighs, 0 ≤ x.damp.lo ∧ x.damp.lo ≤ 1000000 ∧ 0 ≤ x.damp.hi ∧ x.damp.hi ≤ 1000000) :
    Calls Tryd.prog 102 #[valB b dv wv] w fun e w' => ∃ v, e = .returned v ∧ SlI w' v (dries b) ∧ Ext w w' := by
  have HW := Lib.hid hw
  have HBW := Lib.hid hbw
  obtain ⟨A, n, cp, rfl, hn, hlc, hcm⟩ := hd.form
  obtain ⟨A2, n2, cp2, rfl, hn2, hlc2, hcm2⟩ := hw.form
  clear hd hw hbw
  go_enter Tryd.func102, Tryd.ntmps102
  go_wp2
  go_loopg [3, 4] 600 (fun gg v s wr => ∃ (kk : Nat) (d : Int), s = .int .i64 d ∧ Aside (d = b.dry.lo + kk) ∧ b.dry.lo ≤ d ∧ d ≤ b.dry.hi + 1 ∧ (b.dry.hi + 1 - d).toNat ≤ gg ∧ Aside (Own encI 3 1 wr (w.heap.size + 1) v (driesTo b kk)) ∧
    Aside (Below (w.heap.size + 1) (w.alloc (.cells #[.int .i64 b.id, .int .i64 b.layers, .int .i64 b.dry.lo, .int .i64 b.dry.hi, .slice A n cp, .slice A2 n2 cp2] 27)) wr))
  case atStart => exact ⟨0, b.dry.lo, rfl, by show _ = _; simp, by omega, by omega, by omega, Own.nil _ _, Below.refl _ _⟩
  case round =>
    obtain ⟨kk, d, rfl, DK, hd1, hd2, hg, OW, BW⟩ := hrel
    have hz := BW.out.size
    simp at hz
    have hz1 : w.heap.size < wr.heap.size := by omega
    have q1 : wr.cell? ⟨w.heap.size, 3, none⟩ = some (.int .i64 b.dry.hi) := (BW.out.cell (p := ⟨w.heap.size, 3, none⟩) (by simp)).trans (by simp [go_sem])
    have q3 : wr.cell? ⟨w.heap.size, 5, none⟩ = some (.slice A2 n2 cp2) := (BW.out.cell (p := ⟨w.heap.size, 5, none⟩) (by simp)).trans (by simp [go_sem])
    by_cases hlt : d ≤ b.dry.hi
    · obtain ⟨wo, hwo⟩ : ∃ wo : World, wo = wr := ⟨_, rfl⟩
      subst hwo
      go_wp2
      go_loopg [5, 21] n2 (fun gg iv s wr => ∃ (j : Nat) (is : Bool), j ≤ n2 ∧ n2 - j ≤ gg ∧ s = .int .i64 j ∧ iv = .bool is ∧ Aside (is = (b.weighs.take j).all (could d)) ∧ Aside (Ext wo wr))
      case atStart => exact ⟨0, true, Nat.zero_le _, by omega, rfl, rfl, rfl, Ext.refl _⟩
      case round =>
        obtain ⟨j, is, hj, hgj, rfl, rfl, IS, EX⟩ := hrel
        by_cases hjn : j < n2
        · have hjz : (j : Int) < (n2 : Int) := by omega
          obtain ⟨bb, off, x, rfl, hx, hb, hcell⟩ := HW.out.at_ hjn
          obtain ⟨c0, c1, c2, c3⟩ := SlW.cells hcell (((Ext.al w _).trans (BW.out.mono (by simp))).trans EX.out)
          have HX := Lib.hid hx
          have HXB := Lib.hid (HBW.out x (List.mem_of_getElem? hx)); clear hx hcell hb
          have HAS := Lib.hid (all_snoc (could d) _ _ _ HX.out)
          cases is with
          | true =>
            go_wp2_with fail
            refine (f129_any d x _ (by omega) (by omega) HXB.out.1 HXB.out.2.1 HXB.out.2.2.1 HXB.out.2.2.2).mono ?_
            rintro e w1 ⟨rfl, hbw⟩
            have E1 := Lib.hid ((EX.out.trans (Ext.al _ _)).trans hbw); clear hbw
            generalize hcd : could d x = r
            have HCD := Lib.hid hcd; clear hcd
            go_wp2
            go_roundg (n2 - (j + 1))
            case measure => omega
            case rel => exact ⟨j + 1, r, by omega, by omega, rfl, rfl, by show _ = _; rw [HAS.out, ← IS.out, HCD.out]; rfl, E1.out⟩
          | false =>
            go_wp2
            go_roundg (n2 - (j + 1))
            case measure => omega
            case rel => exact ⟨j + 1, false, by omega, by omega, rfl, rfl, by show _ = _; rw [HAS.out, ← IS.out]; rfl, EX.out.trans (Ext.al _ _)⟩
        · have HIS := Lib.hid (show is = b.weighs.all (could d) by rw [IS.out, List.take_of_length_le (by have := hn2.out; omega)])
          have HLN := Lib.hid (driesTo_len b kk)
          have HKK := Lib.hid (show (kk : Int) ≤ 600 by have := DK.out; omega)
          have HSU := Lib.hid (driesTo_succ b kk)
          cases is with
          | true =>
            go_wp2_with (at_builtin; refine wpList_app encI 56 3 1 _ 8 Tryd.underlying56 info3x rfl (by decide) (by decide) (fun _ => rfl) encI_one rfl (.tmp 33) (.tmp 35) rfl (w.heap.size + 1) _ (driesTo b kk) rfl ((OW.out.ext EX.out).alloc _) wr.heap.size 1 d rfl (cells1 (by simp [go_sem])) (by have := HLN.out; have := HKK.out; omega) (by have := EX.out.size; simp; omega) ?_)
            intro g cap w' hown hg2 hbel _
            have hb2 : Below (w.heap.size + 1) (w.alloc (.cells #[.int .i64 b.id, .int .i64 b.layers, .int .i64 b.dry.lo, .int .i64 b.dry.hi, .slice A n cp, .slice A2 n2 cp2] 27)) w' := ((BW.out.trans (EX.out.mono (by omega))).alloc (by have := EX.out.size; omega) _).trans hbel
            have HO := Lib.hid hown; clear hown
            have HB := Lib.hid hb2; clear hb2 hbel
            go_wp2
            go_roundg (b.dry.hi + 1 - (d + 1)).toNat
            case measure => omega
            case rel => exact ⟨kk + 1, d + 1, rfl, by show _ = _; have := DK.out; omega, by omega, by omega, by omega, by
              show Own _ _ _ _ _ _ _
              rw [HSU.out, ← DK.out, ← HIS.out]; simpa using HO.out, HB.out⟩
          | false =>
            go_wp2
            go_roundg (b.dry.hi + 1 - (d + 1)).toNat
            case measure => omega
            case rel => exact ⟨kk + 1, d + 1, rfl, by show _ = _; have := DK.out; omega, by omega, by omega, by omega, by
              show Own _ _ _ _ _ _ _
              rw [HSU.out, ← DK.out, ← HIS.out]; simpa using OW.out.ext EX.out, BW.out.trans (EX.out.mono (by omega))⟩
    · have HK := Lib.hid (show (b.dry.hi - b.dry.lo + 1).toNat = kk by have := DK.out; omega)
      go_wp2
      go_ret
      exact ⟨_, rfl, by unfold dries; rw [HK.out]; exact OW.out.sl (fun _ => rfl), (Ext.al w _).trans (BW.out.mono (by simp))⟩
end Go.Proofs.YtcoiahjehlplfaaDoor
