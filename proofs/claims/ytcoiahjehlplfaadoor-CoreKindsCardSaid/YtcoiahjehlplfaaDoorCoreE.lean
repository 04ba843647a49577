/- What is known of a bale's layers and of its dry weight: the reference's layers, dries and asked. -/
import Derived.Test.YtcoiahjehlplfaaDoorCoreD
namespace Go.Proofs.YtcoiahjehlplfaaDoor
open Go.RowKit Go.Shelf
set_option maxRecDepth 100000

def weight (d r : Int) : Int := d * (1000 + r) / 1000
theorem weight_bd {d r : Int} (h0 : 0 ≤ d) (h1 : d ≤ 1000000) (h2 : 0 ≤ r) (h3 : r ≤ 1000000) : 0 ≤ d * (1000 + r) ∧ d * (1000 + r) ≤ 1001000000000 :=
  ⟨Int.mul_nonneg h0 (by omega), by
    have := Int.mul_le_mul h1 (show 1000 + r ≤ 1001000 by omega) (by omega) (by omega)
    omega⟩
theorem f66_any (d r : Int) (w : World) (h0 : 0 ≤ d) (h1 : d ≤ 1000000) (h2 : 0 ≤ r) (h3 : r ≤ 1000000) : Calls Tryd.prog 66 #[.int .i64 d, .int .i64 r] w fun e w' => e = .returned (.int .i64 (weight d r)) ∧ w = w' := by
  obtain ⟨b0, b1⟩ := weight_bd h0 h1 h2 h3
  go_enter Tryd.func66, Tryd.ntmps66
  go_wp2
  go_ret
  exact ⟨ret_int rfl, rfl⟩
theorem f64_any (d r : Int) (w : World) (h0 : 0 ≤ d) (h1 : d ≤ 1000000) (h2 : 0 ≤ r) (h3 : r ≤ 1000000) : Calls Tryd.prog 64 #[.int .i64 d, .int .i64 r] w fun e w' => e = .returned (.int .i64 (weight d r)) ∧ w = w' := by
  obtain ⟨b0, b1⟩ := weight_bd h0 h1 h2 h3
  go_enter Tryd.func64, Tryd.ntmps64
  go_wp2
  go_ret
  exact ⟨ret_int rfl, rfl⟩

def could (d : Int) (x : Weigh) : Bool := inB (weight d x.damp.lo) (weight d x.damp.hi) x.pounds
theorem f129_any (d : Int) (x : Weigh) (w : World) (h0 : 0 ≤ d) (h1 : d ≤ 1000000) (h2 : 0 ≤ x.damp.lo) (h3 : x.damp.lo ≤ 1000000) (h4 : 0 ≤ x.damp.hi) (h5 : x.damp.hi ≤ 1000000) :
    Calls Tryd.prog 129 #[.int .i64 d, valW x] w fun e w' => e = .returned (.bool (could d x)) ∧ Ext w w' := by
  by_cases hA : weight d x.damp.lo ≤ x.pounds
  · go_enter Tryd.func129, Tryd.ntmps129
    go_wp2
    go_quiet ((go_at_call 64; refine quiet_left (f64_any _ _ _ ?_ ?_ ?_ ?_) <;> assumption))
    go_wp2
    go_ret
    exact ⟨ret_bool (by unfold could inB; simp [hA]), (Ext.al _ _).drewN _⟩
  · have hB : decide (weight d x.damp.lo ≤ x.pounds) = false := by simpa using hA
    go_enter Tryd.func129, Tryd.ntmps129
    go_wp2
    go_quiet ((go_at_call 64; refine quiet_left (f64_any _ _ _ ?_ ?_ ?_ ?_) <;> assumption))
    go_wp2
    go_ret
    exact ⟨ret_bool (by unfold could inB; simp; omega), (Ext.al _ _).drewN _⟩

def spanStep (i : Int) (s : Span) (x : Draw) : Span := if x.layer = i then ⟨max s.lo x.grade.lo, min s.hi x.grade.hi⟩ else s
def spanAt (ds : List Draw) (i : Int) : Span := ds.foldl (spanStep i) ⟨1, 9⟩
def spansTo (b : Bale) (k : Nat) : List Span := (List.range k).map fun (i : Nat) => spanAt b.draws (i : Int)
def spans (b : Bale) : List Span := spansTo b b.layers.toNat
def okS (s : Span) : Bool := decide (s.lo ≤ s.hi)
def grown (l : List Span) : Bool := l.all okS
theorem spansTo_succ (b : Bale) (k : Nat) : spansTo b (k + 1) = spansTo b k ++ [spanAt b.draws k] := by unfold spansTo; rw [List.range_succ]; simp
theorem spansTo_len (b : Bale) (k : Nat) : (spansTo b k).length = k := by simp [spansTo]
theorem foldl_snoc {α β : Type} (f : β → α → β) (s : β) (l : List α) (k : Nat) (x : α) (h : l[k]? = some x) : (l.take (k + 1)).foldl f s = f ((l.take k).foldl f s) x := by
  rw [List.take_add_one, h]; simp
theorem info23x : (Tryd.prog.info? 23).map (fun i => (i.zero, i.size, i.bytes)) = some (some (.agg #[.int .i64 0, .int .i64 0]), 2, 16) := by kernel_rfl
theorem encS_one : ∀ x : Span, ∀ u ∈ encS x, u.oneCell' = true := fun x u hu => by simp at hu; rcases hu with rfl | rfl <;> rfl

def LayersPost (b : Bale) (w : World) (e : Ending) (w' : World) : Prop := ∃ v, e = .returned (.tuple #[v, .bool (grown (spans b))]) ∧ (grown (spans b) = true → SlS w' v (spans b)) ∧ Ext w w'
theorem LayersPost.of {b : Bale} {w w' : World} {v : Value} {g : Bool} (hg : g = grown (spans b)) (hs : g = true → SlS w' v (spans b)) (hE : Ext w w') : LayersPost b w (.returned (.tuple #[v, .bool g])) w' := by
  subst hg; exact ⟨v, rfl, hs, hE⟩
set_option maxHeartbeats 1000000 in
theorem layers_any (b : Bale) (dv wv : Value) (w : World) (hd : SlD w dv b.draws) (hw : SlW w wv b.weighs) (hl1 : 1 ≤ b.layers) (hl5 : b.layers ≤ 5) :
    Calls Tryd.prog 101 #[valB b dv wv] w (LayersPost b w) := by
  have HD := Lib.hid hd
  obtain ⟨A, n, cp, rfl, hn, hlc, hcm⟩ := hd.form
  obtain ⟨A2, n2, cp2, rfl, hn2, hlc2, hcm2⟩ := hw.form
  clear hd hw
  go_enter Tryd.func101, Tryd.ntmps101
  go_wp2
  go_loopg [4, 5] 5 (fun gg v s wr => ∃ kk : Nat, (kk : Int) ≤ b.layers ∧ (b.layers - kk).toNat ≤ gg ∧ s = .int .i64 kk ∧ Aside (Own encS 23 2 wr (w.heap.size + 1) v (spansTo b kk)) ∧ Aside (grown (spansTo b kk) = true) ∧
    Aside (Below (w.heap.size + 1) (w.alloc (.cells #[.int .i64 b.id, .int .i64 b.layers, .int .i64 b.dry.lo, .int .i64 b.dry.hi, .slice A n cp, .slice A2 n2 cp2] 27)) wr))
  case atStart => exact ⟨0, by omega, by omega, rfl, Own.nil _ _, rfl, Below.refl _ _⟩
  case round =>
    obtain ⟨kk, hkk, hg, rfl, OW, GR, BW⟩ := hrel
    have hz := BW.out.size
    simp at hz
    have hz1 : w.heap.size < wr.heap.size := by omega
    have q1 : wr.cell? ⟨w.heap.size, 1, none⟩ = some (.int .i64 b.layers) := (BW.out.cell (p := ⟨w.heap.size, 1, none⟩) (by simp)).trans (by simp [go_sem])
    have q3 : wr.cell? ⟨w.heap.size, 4, none⟩ = some (.slice A n cp) := (BW.out.cell (p := ⟨w.heap.size, 4, none⟩) (by simp)).trans (by simp [go_sem])
    by_cases hlt : (kk : Int) < b.layers
    · obtain ⟨wo, hwo⟩ : ∃ wo : World, wo = wr := ⟨_, rfl⟩
      subst hwo
      go_wp2
      go_loopg [19] n (fun gg s wr => ∃ (j : Nat) (lo hi : Int), j ≤ n ∧ n - j ≤ gg ∧ s = .int .i64 j ∧ Aside ((b.draws.take j).foldl (spanStep kk) ⟨1, 9⟩ = ⟨lo, hi⟩) ∧ Aside (Blk wr wo.heap.size 23 #[.int .i64 lo, .int .i64 hi]) ∧ Aside (Ext wo wr))
      case atStart => exact ⟨0, 1, 9, Nat.zero_le _, by omega, rfl, rfl, Blk.new _ _ _, Ext.al _ _⟩
      case round =>
        obtain ⟨j, lo, hi, hj, hgj, rfl, FO, BL, EX⟩ := hrel
        have s0 : wr.cell? ⟨wo.heap.size, 0, none⟩ = some (.int .i64 lo) := BL.out.cell 0
        have s1 : wr.cell? ⟨wo.heap.size, 1, none⟩ = some (.int .i64 hi) := BL.out.cell 1
        have f0 : wr.frozen? ⟨wo.heap.size, 0, none⟩ = false := BL.out.frozen 0
        have f1 : wr.frozen? ⟨wo.heap.size, 1, none⟩ = false := BL.out.frozen 1
        have hso : wo.heap.size < wr.heap.size := BL.out.lt
        by_cases hjn : j < n
        · have hjz : (j : Int) < (n : Int) := by omega
          obtain ⟨bb, off, x, rfl, hx, hb, hcell⟩ := HD.out.at_ hjn
          obtain ⟨c0, c1, c2, c3⟩ := SlD.cells hcell (((Ext.al w _).trans (BW.out.mono (by simp))).trans EX.out)
          have HX := Lib.hid hx; clear hx hcell hb
          have HFO := Lib.hid (foldl_snoc (spanStep kk) ⟨1, 9⟩ _ _ _ HX.out)
          by_cases he : x.layer = kk
          · have HE := Lib.hid he
            have he' : (x.layer == (kk : Int)) = true := by simpa using he
            clear he
            go_wp2
            go_roundg (n - (j + 1))
            case measure => omega
            case rel => exact ⟨j + 1, max lo x.grade.lo, min hi x.grade.hi, by omega, by omega, rfl, by show _ = _; rw [HFO.out, FO.out, spanStep, if_pos HE.out], ((BL.out.set_ 0 _).set_ 1 _).alloc _, ((EX.out.setCell (Nat.le_refl _) _).setCell (Nat.le_refl _) _).alloc _⟩
          · have HE := Lib.hid he
            have he' : (x.layer == (kk : Int)) = false := by simpa using he
            clear he
            go_wp2
            go_roundg (n - (j + 1))
            case measure => omega
            case rel => exact ⟨j + 1, lo, hi, by omega, by omega, rfl, by show _ = _; rw [HFO.out, FO.out, spanStep, if_neg HE.out], BL.out.alloc _, EX.out.alloc _⟩
        · have HSP := Lib.hid (show spanAt b.draws kk = ⟨lo, hi⟩ by unfold spanAt; rw [← FO.out, List.take_of_length_le (by have := hn.out; omega)])
          by_cases hbad : hi < lo
          · have HG := Lib.hid (show false = grown (spans b) by
              symm
              unfold grown; rw [List.all_eq_false]
              refine ⟨spanAt b.draws kk, ?_, by rw [HSP.out]; simp [okS]; omega⟩
              unfold spans spansTo
              exact List.mem_map.2 ⟨kk, by simp; omega, rfl⟩)
            go_wp2
            go_ret2
            exact LayersPost.of HG.out (fun h => by cases h) (((Ext.al w _).trans (BW.out.mono (by simp))).trans EX.out)
          · have hOL := spansTo_len b kk
            have HOL := Lib.hid hOL; clear hOL
            go_wp2_with (at_builtin; refine wpList_app encS 80 23 2 _ 16 Tryd.underlying80 info23x rfl (by decide) (by decide) (fun _ => rfl) encS_one rfl (.tmp 46) (.tmp 48) rfl (w.heap.size + 1) _ (spansTo b kk) rfl ((OW.out.ext EX.out).alloc _) wr.heap.size 1 ⟨lo, hi⟩ rfl (cells2 (by simp [go_sem]) (by simp [go_sem])) (by rw [HOL.out]; omega) (by simp; omega) ?_)
            intro g cap w' hown hg2 hbel _
            have hb2 : Below (w.heap.size + 1) (w.alloc (.cells #[.int .i64 b.id, .int .i64 b.layers, .int .i64 b.dry.lo, .int .i64 b.dry.hi, .slice A n cp, .slice A2 n2 cp2] 27)) w' := ((BW.out.trans (EX.out.mono (by omega))).alloc (by omega) _).trans hbel
            have HO := Lib.hid hown; clear hown
            have HB := Lib.hid hb2; clear hb2 hbel
            go_wp2
            go_roundg (b.layers - (kk + 1)).toNat
            case measure => omega
            case rel => exact ⟨kk + 1, by omega, by omega, rfl, by
              show Own _ _ _ _ _ _ _
              rw [spansTo_succ, HSP.out]; exact HO.out, by
              show _ = _
              have h1 := GR.out
              unfold grown at h1 ⊢
              rw [spansTo_succ, HSP.out, List.all_append, h1]; simp [okS]; omega, HB.out⟩
    · have HK := Lib.hid (show b.layers.toNat = kk by omega)
      go_wp2
      go_ret2
      exact LayersPost.of (by unfold spans; rw [HK.out, GR.out]) (fun _ => by unfold spans; rw [HK.out]; exact OW.out.sl (fun _ => rfl)) ((Ext.al w _).trans (BW.out.mono (by simp)))
end Go.Proofs.YtcoiahjehlplfaaDoor
