/- The dry weights that can be; whether a bale has a truth: the reference's dries, asked, True and Can. -/
import Derived.Test.YtcoiahjehlplfaaDoorPkChangesCardA
import Derived.Orders
import Derived.WalkMore
import Derived.RegionTactic
namespace Go.Proofs.YtcoiahjehlplfaaDoor
open Go.RowKit Go.Shelf
set_option maxRecDepth 100000

theorem info3x : (Tryd.prog.info? 3).map (fun i => (i.zero, i.size, i.bytes)) = some (some (.int .i64 0), 1, 8) := by kernel_rfl
theorem encI_one : ∀ x : Int, ∀ u ∈ encI x, u.oneCell' = true := fun x u hu => by simp at hu; subst hu; rfl
def driesTo (b : Bale) (k : Nat) : List Int := ((List.range k).map fun (i : Nat) => b.dry.lo + (i : Int)).filter fun d => b.weighs.all (could d)
def dries (b : Bale) : List Int := driesTo b (b.dry.hi - b.dry.lo + 1).toNat
theorem driesTo_succ (b : Bale) (k : Nat) : driesTo b (k + 1) = driesTo b k ++ (if b.weighs.all (could (b.dry.lo + k)) then [b.dry.lo + (k : Int)] else []) := by
  unfold driesTo; rw [List.range_succ, List.map_append, List.filter_append]; simp [List.filter_cons]
theorem driesTo_len (b : Bale) (k : Nat) : (driesTo b k).length ≤ k := by
  unfold driesTo; exact Nat.le_trans (List.length_filter_le _ _) (by simp)
theorem all_snoc {α : Type} (p : α → Bool) (l : List α) (k : Nat) (x : α) (h : l[k]? = some x) : (l.take (k + 1)).all p = ((l.take k).all p && p x) := by
  rw [List.take_add_one, h]; simp

/-- What validity says of the numbers. -/
structure Bds (b : Bale) : Prop where
  l1 : 1 ≤ b.layers
  l5 : b.layers ≤ 5
  lo : 1 ≤ b.dry.lo
  lh : b.dry.lo ≤ b.dry.hi
  hi : b.dry.hi ≤ 600
  nd : b.draws.length ≤ 10
  nw : b.weighs.length ≤ 8
  d : ∀ x ∈ b.draws, 0 ≤ x.layer ∧ x.layer < b.layers ∧ 1 ≤ x.grade.lo ∧ x.grade.lo ≤ x.grade.hi ∧ x.grade.hi ≤ 9
  w : ∀ x ∈ b.weighs, 1 ≤ x.pounds ∧ x.pounds ≤ 1200 ∧ 0 ≤ x.damp.lo ∧ x.damp.lo ≤ x.damp.hi ∧ x.damp.hi ≤ 200
theorem valid_bds {b : Bale} (h : valid b = true) : Bds b := by
  unfold valid chk1 chk2 at h
  simp only [Bool.and_eq_true, Bool.not_eq_true', decide_eq_true_eq, List.any_eq_false] at h
  obtain ⟨⟨⟨h1, h2⟩, h3⟩, ⟨⟨⟨h4, h5⟩, _⟩, _⟩, h6, h7⟩ := h
  unfold rightB at h3
  unfold inB at h1 h2 h3
  simp only [Bool.and_eq_true, decide_eq_true_eq] at h1 h2 h3
  refine ⟨by omega, by omega, by omega, by omega, by omega, by omega, by omega, fun x hx => ?_, fun x hx => ?_⟩
  · have := h6 x hx
    unfold badD rightB inB at this
    simp at this
    omega
  · have := h7 x hx
    unfold badW rightB inB at this
    simp at this
    omega

set_option maxHeartbeats 1000000 in
theorem dries_any (b : Bale) (dv wv : Value) (w : World) (hd : SlD w dv b.draws) (hw : SlW w wv b.weighs) (hb1 : 1 ≤ b.dry.lo) (hb2 : b.dry.lo ≤ b.dry.hi) (hb3 : b.dry.hi ≤ 600)
    (hbw : ∀ x ∈ b.weighs, 0 ≤ x.damp.lo ∧ x.damp.lo ≤ 1000000 ∧ 0 ≤ x.damp.hi ∧ x.damp.hi ≤ 1000000) :
    Calls Tryd.prog 102 #[valB b dv wv] w fun e w' => ∃ v, e = .returned v ∧ SlI w' v (dries b) ∧ Ext w w' := by
  have HW := Lib.hid hw
  have HBW := Lib.hid hbw
  obtain ⟨A, n, cp, rfl, hn, hlc, hcm⟩ := hd.form
  obtain ⟨A2, n2, cp2, rfl, hn2, hlc2, hcm2⟩ := hw.form
  clear hd hw hbw
  go_enter Tryd.func102, Tryd.ntmps102
  go_wp2
  go_loopg [3, 4] 600 (fun gg v s wr => ∃ (kk : Nat) (d : Int), s = .int .i64 d ∧ Aside (d = b.dry.lo + kk) ∧ b.dry.lo ≤ d ∧ d ≤ b.dry.hi + 1 ∧ (b.dry.hi + 1 - d).toNat ≤ gg ∧ Aside (Own encI 3 1 wr (w.heap.size + 1) v (driesTo b kk)) ∧
    Aside (Below (w.heap.size + 1) (w.alloc (.cells #[.int .i64 b.id, .int .i64 b.layers, .int .i64 b.dry.lo, .int .i64 b.dry.hi, .slice A n cp, .slice A2 n2 cp2] 27)) wr))
  case atStart => exact ⟨0, b.dry.lo, rfl, by show _ = _; simp, by omega, by omega, by omega, Own.nil _ _, Below.refl _ _⟩
  case round =>
    obtain ⟨kk, d, rfl, DK, hd1, hd2, hg, OW, BW⟩ := hrel
    have hz := BW.out.size
    simp at hz
    have hz1 : w.heap.size < wr.heap.size := by omega
    have q1 : wr.cell? ⟨w.heap.size, 3, none⟩ = some (.int .i64 b.dry.hi) := (BW.out.cell (p := ⟨w.heap.size, 3, none⟩) (by simp)).trans (by simp [go_sem])
    have q3 : wr.cell? ⟨w.heap.size, 5, none⟩ = some (.slice A2 n2 cp2) := (BW.out.cell (p := ⟨w.heap.size, 5, none⟩) (by simp)).trans (by simp [go_sem])
    by_cases hlt : d ≤ b.dry.hi
    · obtain ⟨wo, hwo⟩ : ∃ wo : World, wo = wr := ⟨_, rfl⟩
      subst hwo
      go_wp2
      go_loopg [5, 21] n2 (fun gg iv s wr => ∃ (j : Nat) (is : Bool), j ≤ n2 ∧ n2 - j ≤ gg ∧ s = .int .i64 j ∧ iv = .bool is ∧ Aside (is = (b.weighs.take j).all (could d)) ∧ Aside (Ext wo wr))
      case atStart => exact ⟨0, true, Nat.zero_le _, by omega, rfl, rfl, rfl, Ext.refl _⟩
      case round =>
        obtain ⟨j, is, hj, hgj, rfl, rfl, IS, EX⟩ := hrel
        by_cases hjn : j < n2
        · have hjz : (j : Int) < (n2 : Int) := by omega
          obtain ⟨bb, off, x, rfl, hx, hb, hcell⟩ := HW.out.at_ hjn
          obtain ⟨c0, c1, c2, c3⟩ := SlW.cells hcell (((Ext.al w _).trans (BW.out.mono (by simp))).trans EX.out)
          have HX := Lib.hid hx
          have HXB := Lib.hid (HBW.out x (List.mem_of_getElem? hx)); clear hx hcell hb
          have HAS := Lib.hid (all_snoc (could d) _ _ _ HX.out)
          cases is with
          | true =>
            go_wp2_with fail
            refine (f129_any d x _ (by omega) (by omega) HXB.out.1 HXB.out.2.1 HXB.out.2.2.1 HXB.out.2.2.2).mono ?_
            rintro e w1 ⟨rfl, hbw⟩
            have E1 := Lib.hid ((EX.out.trans (Ext.al _ _)).trans hbw); clear hbw
            generalize hcd : could d x = r
            have HCD := Lib.hid hcd; clear hcd
            go_wp2
            go_roundg (n2 - (j + 1))
            case measure => omega
            case rel => exact ⟨j + 1, r, by omega, by omega, rfl, rfl, by show _ = _; rw [HAS.out, ← IS.out, HCD.out]; rfl, E1.out⟩
          | false =>
            go_wp2
            go_roundg (n2 - (j + 1))
            case measure => omega
            case rel => exact ⟨j + 1, false, by omega, by omega, rfl, rfl, by show _ = _; rw [HAS.out, ← IS.out]; rfl, EX.out.trans (Ext.al _ _)⟩
        · have HIS := Lib.hid (show is = b.weighs.all (could d) by rw [IS.out, List.take_of_length_le (by have := hn2.out; omega)])
          have HLN := Lib.hid (driesTo_len b kk)
          have HKK := Lib.hid (show (kk : Int) ≤ 600 by have := DK.out; omega)
          have HSU := Lib.hid (driesTo_succ b kk)
          cases is with
          | true =>
            go_wp2_with (at_builtin; refine wpList_app encI 56 3 1 _ 8 Tryd.underlying56 info3x rfl (by decide) (by decide) (fun _ => rfl) encI_one rfl (.tmp 33) (.tmp 35) rfl (w.heap.size + 1) _ (driesTo b kk) rfl ((OW.out.ext EX.out).alloc _) wr.heap.size 1 d rfl (cells1 (by simp [go_sem])) (by have := HLN.out; have := HKK.out; omega) (by have := EX.out.size; simp; omega) ?_)
            intro g cap w' hown hg2 hbel _
            have hb2 : Below (w.heap.size + 1) (w.alloc (.cells #[.int .i64 b.id, .int .i64 b.layers, .int .i64 b.dry.lo, .int .i64 b.dry.hi, .slice A n cp, .slice A2 n2 cp2] 27)) w' := ((BW.out.trans (EX.out.mono (by omega))).alloc (by have := EX.out.size; omega) _).trans hbel
            have HO := Lib.hid hown; clear hown
            have HB := Lib.hid hb2; clear hb2 hbel
            go_wp2
            go_roundg (b.dry.hi + 1 - (d + 1)).toNat
            case measure => omega
            case rel => exact ⟨kk + 1, d + 1, rfl, by show _ = _; have := DK.out; omega, by omega, by omega, by omega, by
              show Own _ _ _ _ _ _ _
              rw [HSU.out, ← DK.out, ← HIS.out]; simpa using HO.out, HB.out⟩
          | false =>
            go_wp2
            go_roundg (b.dry.hi + 1 - (d + 1)).toNat
            case measure => omega
            case rel => exact ⟨kk + 1, d + 1, rfl, by show _ = _; have := DK.out; omega, by omega, by omega, by omega, by
              show Own _ _ _ _ _ _ _
              rw [HSU.out, ← DK.out, ← HIS.out]; simpa using OW.out.ext EX.out, BW.out.trans (EX.out.mono (by omega))⟩
    · have HK := Lib.hid (show (b.dry.hi - b.dry.lo + 1).toNat = kk by have := DK.out; omega)
      go_wp2
      go_ret
      exact ⟨_, rfl, by unfold dries; rw [HK.out]; exact OW.out.sl (fun _ => rfl), (Ext.al w _).trans (BW.out.mono (by simp))⟩
end Go.Proofs.YtcoiahjehlplfaaDoor
/- Equality of structs, as the program tests it; that the reference's test of a bale is the program's. -/
namespace Go.Proofs.YtcoiahjehlplfaaDoor
open Go.RowKit Go.Shelf
set_option maxRecDepth 100000

theorem und23 : Tryd.prog.underlying 23 = some (.struct (Tryd.prog.fieldsOf 23)) := by kernel_rfl
theorem und63 : Tryd.prog.underlying 63 = some (.struct (Tryd.prog.fieldsOf 63)) := by kernel_rfl
theorem und65 : Tryd.prog.underlying 65 = some (.struct (Tryd.prog.fieldsOf 65)) := by kernel_rfl
theorem held23 : Tryd.prog.stoodInHeld 23 = false := by kernel_rfl
theorem held63 : Tryd.prog.stoodInHeld 63 = false := by kernel_rfl
theorem held65 : Tryd.prog.stoodInHeld 65 = false := by kernel_rfl
theorem guard23 : Tryd.prog.eqGuardType Tryd.prog.depth 23 = false := by kernel_rfl
theorem guard63 : Tryd.prog.eqGuardType Tryd.prog.depth 63 = false := by kernel_rfl
theorem guard65 : Tryd.prog.eqGuardType Tryd.prog.depth 65 = false := by kernel_rfl

theorem eqin23 (d : Nat) (a b a' b' : Int) (w : World) : (Op.equalIn (d + 2) 23 (.agg #[.int .i64 a, .int .i64 b]) (.agg #[.int .i64 a', .int .i64 b'])).run Tryd.prog w = .ok (a == a' && b == b') w := by
  have u3 := Tryd.underlying3
  have a3 := Tryd.isAgg3
  have z3 := Tryd.sizeOf3
  rw [run_equalIn_agg w (d + 1) 23 _ _ und23 held23]
  simp only [Program.fieldsOf, Tryd.underlying23]
  go_simp
  by_cases h1 : a = a' <;> by_cases h2 : b = b' <;> simp [h1, h2]
theorem neq23 (a b a' b' : Int) (w : World) : (binOp .neq 23 (.agg #[.int .i64 a, .int .i64 b]) (.agg #[.int .i64 a', .int .i64 b'])).run Tryd.prog w = .ok (.bool (!(a == a' && b == b'))) w := by
  rw [run_neq_struct, show (10000 : Nat) = 9998 + 2 from rfl, eqin23]; rfl
theorem eqin63 (d : Nat) (n l a b n' l' a' b' : Int) (w : World) : (Op.equalIn (d + 3) 63 (.agg #[.int .i64 n, .int .i64 l, .int .i64 a, .int .i64 b]) (.agg #[.int .i64 n', .int .i64 l', .int .i64 a', .int .i64 b'])).run Tryd.prog w = .ok (n == n' && (l == l' && (a == a' && b == b'))) w := by
  have u3 := Tryd.underlying3
  have a3 := Tryd.isAgg3
  have z3 := Tryd.sizeOf3
  have a23 := Tryd.isAgg23
  have z23 := Tryd.sizeOf23
  have e := eqin23 d
  rw [run_equalIn_agg w (d + 2) 63 _ _ und63 held63]
  simp only [Program.fieldsOf, Tryd.underlying63]
  go_simp
  by_cases h1 : a = a' <;> by_cases h2 : b = b' <;> by_cases h3 : n = n' <;> by_cases h4 : l = l' <;> simp [h1, h2, h3, h4]
theorem eqin65 (d : Nat) (n l a b n' l' a' b' : Int) (w : World) : (Op.equalIn (d + 3) 65 (.agg #[.int .i64 n, .int .i64 l, .int .i64 a, .int .i64 b]) (.agg #[.int .i64 n', .int .i64 l', .int .i64 a', .int .i64 b'])).run Tryd.prog w = .ok (n == n' && (l == l' && (a == a' && b == b'))) w := by
  have u3 := Tryd.underlying3
  have a3 := Tryd.isAgg3
  have z3 := Tryd.sizeOf3
  have a23 := Tryd.isAgg23
  have z23 := Tryd.sizeOf23
  have e := eqin23 d
  rw [run_equalIn_agg w (d + 2) 65 _ _ und65 held65]
  simp only [Program.fieldsOf, Tryd.underlying65]
  go_simp
  by_cases h1 : a = a' <;> by_cases h2 : b = b' <;> by_cases h3 : n = n' <;> by_cases h4 : l = l' <;> simp [h1, h2, h3, h4]
theorem neq63 (n l a b n' l' a' b' : Int) (w : World) : (binOp .neq 63 (.agg #[.int .i64 n, .int .i64 l, .int .i64 a, .int .i64 b]) (.agg #[.int .i64 n', .int .i64 l', .int .i64 a', .int .i64 b'])).run Tryd.prog w = .ok (.bool (!(n == n' && (l == l' && (a == a' && b == b'))))) w := by
  rw [run_neq_struct, show (10000 : Nat) = 9997 + 3 from rfl, eqin63]; rfl
theorem neq65 (n l a b n' l' a' b' : Int) (w : World) : (binOp .neq 65 (.agg #[.int .i64 n, .int .i64 l, .int .i64 a, .int .i64 b]) (.agg #[.int .i64 n', .int .i64 l', .int .i64 a', .int .i64 b'])).run Tryd.prog w = .ok (.bool (!(n == n' && (l == l' && (a == a' && b == b'))))) w := by
  rw [run_neq_struct, show (10000 : Nat) = 9997 + 3 from rfl, eqin65]; rfl
theorem eql63l (n l a b l' : Int) (w : World) : (binOp .eql 63 (.agg #[.int .i64 n, .int .i64 l, .int .i64 a, .int .i64 b]) (.agg #[.int .i64 n, .int .i64 l', .int .i64 a, .int .i64 b])).run Tryd.prog w = .ok (.bool (l == l')) w := by
  rw [run_eql_struct, show (10000 : Nat) = 9997 + 3 from rfl, eqin63]; simp [Result.andThen]

/-! The reference's validity is the program's. -/
theorem right_eq (a b L M : Int) : (inB L b a && !decide (M < b)) = rightB a b L M := by
  unfold rightB inB
  rw [Bool.eq_iff_iff]
  simp
  omega
theorem refDs_eq (layers : Int) : ∀ (last : Int) (l : List Draw), refDs layers last l = (risingB last (l.map (·.number)) && !l.any (badD layers))
  | _, [] => rfl
  | last, x :: l => by
    rw [refDs, refDs_eq layers x.number l, List.map_cons, risingB, List.any_cons]
    unfold refD badD
    rw [show ((inB (last + 1) 9999 x.number && inB 0 (layers - 1) x.layer) && inB 1 x.grade.hi x.grade.lo && !decide (9 < x.grade.hi)) = ((inB (last + 1) 9999 x.number && inB 0 (layers - 1) x.layer) && (inB 1 x.grade.hi x.grade.lo && !decide (9 < x.grade.hi))) from by rw [Bool.and_assoc], right_eq]
    cases inB (last + 1) 9999 x.number <;> cases inB 0 (layers - 1) x.layer <;> cases rightB x.grade.lo x.grade.hi 1 9 <;> simp
theorem refWs_eq : ∀ (last : Int) (l : List Weigh), refWs last l = (risingB last (l.map (·.number)) && !l.any badW)
  | _, [] => rfl
  | last, x :: l => by
    rw [refWs, refWs_eq x.number l, List.map_cons, risingB, List.any_cons]
    unfold refW badW
    rw [show ((inB (last + 1) 9999 x.number && inB 1 1200 x.pounds) && inB 0 x.damp.hi x.damp.lo && !decide (200 < x.damp.hi)) = ((inB (last + 1) 9999 x.number && inB 1 1200 x.pounds) && (inB 0 x.damp.hi x.damp.lo && !decide (200 < x.damp.hi))) from by rw [Bool.and_assoc], right_eq]
    cases inB (last + 1) 9999 x.number <;> cases inB 1 1200 x.pounds <;> cases rightB x.damp.lo x.damp.hi 0 200 <;> simp
theorem not_lt_le (a b : Int) : (!decide (a < b)) = decide (b ≤ a) := by rw [Bool.eq_iff_iff]; simp
theorem refValid_eq (b : Bale) : refValid b = valid b := by
  unfold refValid refHead valid chk1 chk2
  rw [refDs_eq, refWs_eq, ← right_eq b.dry.lo b.dry.hi 1 600, not_lt_le, not_lt_le 10, not_lt_le 8]
  cases inB 1 9999 b.id <;> cases inB 1 5 b.layers <;> cases inB 1 b.dry.hi b.dry.lo <;> cases decide (b.dry.hi ≤ 600) <;> cases decide ((b.draws.length : Int) ≤ 10) <;> cases decide ((b.weighs.length : Int) ≤ 8) <;> cases risingB 0 (b.draws.map (·.number)) <;> cases risingB 0 (b.weighs.map (·.number)) <;> cases b.draws.any (badD b.layers) <;> cases b.weighs.any badW <;> rfl
theorem refBale_v (b : Bale) (dv wv : Value) (w : World) (hd : SlD w dv b.draws) (hw : SlW w wv b.weighs) :
    Calls Tryd.prog 49 #[valB b dv wv] w fun e w' => e = .returned (.bool (valid b)) ∧ Ext w w' := refValid_eq b ▸ refBale_any b dv wv w hd hw
theorem refCheck_v (b : Bale) (dv wv : Value) (w : World) (hd : SlD w dv b.draws) (hw : SlW w wv b.weighs) :
    Calls Tryd.prog 14 #[valB b dv wv] w fun e w' => e = .returned (.int .i64 (errB (valid b) 30)) ∧ Ext w w' := refValid_eq b ▸ refCheck_any b dv wv w hd hw
end Go.Proofs.YtcoiahjehlplfaaDoor
/- A region that draws its order, whatever its operations make: each operation by a predicate on its value; one walk in the order of the text serves every order. -/
namespace Go.Proofs.YtcoiahjehlplfaaDoor
open Go.RowKit Go.Shelf

abbrev Facts := List (Option Tmp × (Value → World → Prop))
/-- What stands in an operation's temporary. -/
def atD (ρ : Operand → Value) : Option Tmp → Value
  | some d => ρ (.tmp d)
  | none => undef
/-- What is known of operation j. -/
def Fact (F : Facts) (ρ : Operand → Value) (W : World) (j : Nat) : Prop :=
  match F[j]? with
  | some (d, U) => U (atD ρ d) W
  | none => True
def isB (v : Value) (b : Bool) : Bool := match v with | .bool c => c == b | _ => false
/-- Whether a guarded operation runs. -/
def runs (F : Facts) (ρ : Operand → Value) : Option (Nat × Bool) → Bool
  | none => true
  | some (j, b) => match F[j]? with
    | some (some d, _) => isB (ρ (.tmp d)) b
    | _ => false
def notIn (ds : List (Option Tmp)) (t : Tmp) : Bool := ds.all fun d => d != some t
/-- The frame, but for the region's own temporaries. -/
def Same0 (ds : List (Option Tmp)) (a0 A : Act) : Prop := A.defers = a0.defers ∧ A.tmps.size = a0.tmps.size ∧ ∀ t, notIn ds t = true → A.eval (.tmp t) = a0.eval (.tmp t)

/-- o, in the frame A and the world W, gives a value and a world of which U holds. -/
def CR (C : World → Prop) (R : World → World → Prop) (W W' : World) : Prop := C W' ∧ R W W'
def CallPost (C : World → Prop) (R : World → World → Prop) (W : World) (U : Value → World → Prop) (e : Ending) (W' : World) : Prop := ∃ v, e = .returned v ∧ CR C R W W' ∧ U v W'
def IsL (l' l : List Value) : Prop := l = l'
/-- A value that is known. -/
def Is (v0 v : Value) : Prop := v = v0
def opPost (P : Program) (C : World → Prop) (R : World → World → Prop) (W : World) (U : Value → World → Prop) : Result Next → Prop
  | .ok (.value v) W' => CR C R W W' ∧ U v W'
  | .ok .skip W' => CR C R W W' ∧ U undef W'
  | .ok (.enter f args) W' => Calls P f args W' (CallPost C R W U)
  | _ => False
def opGives (P : Program) (C : World → Prop) (R : World → World → Prop) (o : Oper) (ρ : Operand → Value) (W : World) (U : Value → World → Prop) : Prop := opPost P C R W U ((execOp ρ o).run P W)

/-- The walk, in the order of the text. -/
def wpTame (P : Program) (C : World → Prop) (R : World → World → Prop) (ds : List (Option Tmp)) (a0 : Act) (Q : Act → World → Prop) (n : Nat) : List Oper → Facts → Prop
  | [], F => ∀ A W, C W → Same0 ds a0 A → (∀ j, j < n → Fact F A.eval W j) → Q A W
  | o :: rest, F => ∃ U : Value → World → Prop, (∀ v W W', C W' → R W W' → U v W → U v W') ∧
      (∀ A W, C W → Same0 ds a0 A → (∀ e ∈ o.after, Region.binds .any e = true → Fact F A.eval W e.on) → if runs F A.eval o.guard then opGives P C R o A.eval W (fun v => U (if o.dst.isSome then v else undef)) else U undef W) ∧
      wpTame P C R ds a0 Q n rest (F ++ [(o.dst, U)])

/-- The region is of the common form: each operation looks back, no temporary is written twice. -/
def tameB (l : List Oper) (size : Nat) : Bool :=
  l.zipIdx.all (fun (o, i) => o.after.toList.all (fun e => !Region.binds .any e || decide (e.on < i)) && (match o.dst with | some d => decide (d < size) | none => true) && (match o.guard with | some (j, _) => decide (j < i) && o.after.toList.any (fun e => e.on == j && Region.binds .any e) | none => true)) &&
  l.zipIdx.all (fun (o, i) => match o.dst with | none => true | some d => l.zipIdx.all (fun (p, j) => i == j || p.dst != some d))

theorem wpTame_facts {P : Program} {C : World → Prop} {R : World → World → Prop} {ds : List (Option Tmp)} {a0 : Act} {Q : Act → World → Prop} {n : Nat} : ∀ (l : List Oper) (F : Facts), wpTame P C R ds a0 Q n l F →
    ∃ G : Facts, G.length = F.length + l.length ∧ (∀ j, j < F.length → G[j]? = F[j]?) ∧ (∀ A W, C W → Same0 ds a0 A → (∀ j, j < n → Fact G A.eval W j) → Q A W) ∧
      ∀ i o, l[i]? = some o → ∃ U, G[F.length + i]? = some (o.dst, U) ∧ (∀ v W W', C W' → R W W' → U v W → U v W') ∧
        (∀ A W, C W → Same0 ds a0 A → (∀ e ∈ o.after, Region.binds .any e = true → Fact (G.take (F.length + i)) A.eval W e.on) → if runs (G.take (F.length + i)) A.eval o.guard then opGives P C R o A.eval W (fun v => U (if o.dst.isSome then v else undef)) else U undef W)
  | [], F, h => ⟨F, by simp, fun _ _ => rfl, h, fun i o hi => by simp at hi⟩
  | o :: rest, F, h => by
    obtain ⟨U, hst, hstep, hrest⟩ := h
    obtain ⟨G, hlen, hpre, hfin, hops⟩ := wpTame_facts rest (F ++ [(o.dst, U)]) hrest
    have hF : G.take F.length = F := by
      apply List.ext_getElem?
      intro j
      rw [List.getElem?_take]
      by_cases hj : j < F.length
      · rw [if_pos hj, hpre j (by simp; omega), List.getElem?_append_left hj]
      · rw [if_neg hj, List.getElem?_eq_none (by omega)]
    refine ⟨G, by rw [hlen]; simp; omega, fun j hj => by rw [hpre j (by simp; omega), List.getElem?_append_left hj], hfin, fun i o' hi => ?_⟩
    cases i with
    | zero =>
      simp at hi; subst hi
      refine ⟨U, ?_, hst, ?_⟩
      · rw [Nat.add_zero, hpre F.length (by simp)]; simp
      · rw [Nat.add_zero, hF]; exact hstep
    | succ i =>
      obtain ⟨U', h1, h2, h3⟩ := hops i o' (by simpa using hi)
      have e : (F ++ [(o.dst, U)]).length + i = F.length + (i + 1) := by simp; omega
      rw [e] at h1 h3
      exact ⟨U', h1, h2, h3⟩

theorem undef_isB (b : Bool) : isB undef b = false := rfl
theorem yielded_isB {ops : Array Oper} {A : Act} {j : Nat} {o : Oper} {d : Tmp} (ho : ops[j]? = some o) (hd : o.dst = some d) (b : Bool) : (yielded ops A.tmps j == some b) = isB (A.eval (.tmp d)) b := by
  unfold yielded
  simp only [ho, Option.bind_some, hd, Act.eval]
  cases hx : A.tmps[d]? with
  | none => simp [Array.getD_eq_getD_getElem?, hx]; rfl
  | some v => simp only [Array.getD_eq_getD_getElem?, hx, Option.getD_some]; cases v <;> simp [isB]

theorem eval_put_self {A : Act} {d : Tmp} {v : Value} (h : d < A.tmps.size) : (A.put (some d) v).eval (.tmp d) = v := by
  simp [Act.put, Act.eval, h]
theorem eval_put_ne {A : Act} {d t : Tmp} {v : Value} (h : d ≠ t) : (A.put (some d) v).eval (.tmp t) = A.eval (.tmp t) := by
  simp only [Act.put, Act.eval, Array.getD_eq_getD_getElem?]
  rw [Array.getElem?_setIfInBounds_ne h]
theorem same0_put {ds : List (Option Tmp)} {a0 A : Act} {o : Option Tmp} (h : Same0 ds a0 A) (ho : o ∈ ds) (v : Value) : Same0 ds a0 (A.put o v) := by
  obtain ⟨h1, h2, h3⟩ := h
  cases o with
  | none => exact ⟨h1, h2, h3⟩
  | some d =>
    refine ⟨h1, by simpa [Act.put] using h2, fun t ht => ?_⟩
    have hne : d ≠ t := by
      unfold notIn at ht
      rw [List.all_eq_true] at ht
      have := ht _ ho
      simpa using this
    rw [eval_put_ne hne]; exact h3 t ht

section
variable {P : Program} {C : World → Prop} {R : World → World → Prop} {a0 : Act} {l : List Oper}

theorem tame_any {Q : Exit → Act → World → Prop} {Qn : Act → World → Prop} (hQ : ∀ A W, Qn A W → Q .normal A W) (hB : tameB l a0.tmps.size = true) (G : Facts) (hlen : G.length = l.length)
    (hfin : ∀ A W, C W → Same0 (l.map (·.dst)) a0 A → (∀ j, j < l.length → Fact G A.eval W j) → Qn A W)
    (hops : ∀ i o, l[i]? = some o → ∃ U, G[i]? = some (o.dst, U) ∧ (∀ v W W', C W' → R W W' → U v W → U v W') ∧
        (∀ A W, C W → Same0 (l.map (·.dst)) a0 A → (∀ e ∈ o.after, Region.binds .any e = true → Fact (G.take i) A.eval W e.on) → if runs (G.take i) A.eval o.guard then opGives P C R o A.eval W (fun v => U (if o.dst.isSome then v else undef)) else U undef W)) :
    ∀ (fuel : Nat) (listed : Array Bool) (A : Act) (W : World), listed.size = l.length → ((List.range l.length).filter fun j => !listed.getD j true).length ≤ fuel → C W → Same0 (l.map (·.dst)) a0 A →
      (∀ j, listed.getD j false = true → Fact G A.eval W j) → wpAny P .any l.toArray Q fuel listed A W := by
  have hB' := hB
  unfold tameB at hB'
  rw [Bool.and_eq_true, List.all_eq_true, List.all_eq_true] at hB'
  obtain ⟨hb1, hb2⟩ := hB'
  have hback : ∀ (i : Nat) (o : Oper), l[i]? = some o → (∀ e ∈ o.after, Region.binds .any e = true → e.on < i) ∧ (∀ d, o.dst = some d → d < a0.tmps.size) ∧ (∀ (j : Nat) (b : Bool), o.guard = some (j, b) → j < i ∧ ∃ e ∈ o.after, e.on = j ∧ Region.binds .any e = true) := by
    intro i o hi
    have h := hb1 (o, i) (by rw [List.mem_zipIdx_iff_getElem?]; simpa using hi)
    simp only [Bool.and_eq_true] at h
    obtain ⟨⟨h1, h2⟩, h3⟩ := h
    refine ⟨fun e he hbd => ?_, fun d hd => ?_, fun j b hg => ?_⟩
    · rw [List.all_eq_true] at h1
      have := h1 e (Array.mem_toList_iff.2 he)
      simpa [hbd] using this
    · rw [hd] at h2; simpa using h2
    · rw [hg] at h3
      simp only [Bool.and_eq_true, decide_eq_true_eq] at h3
      refine ⟨h3.1, ?_⟩
      obtain ⟨_, h3⟩ := h3
      rw [List.any_eq_true] at h3
      obtain ⟨e, he, h4⟩ := h3
      exact ⟨e, Array.mem_toList_iff.1 he, by simpa using h4⟩
  have hdist : ∀ (i j : Nat) (o p : Oper) (d : Tmp), l[i]? = some o → l[j]? = some p → o.dst = some d → i ≠ j → p.dst ≠ some d := by
    intro i j o p d hi hj hd hne
    have h := hb2 (o, i) (by rw [List.mem_zipIdx_iff_getElem?]; simpa using hi)
    simp only [hd] at h
    rw [List.all_eq_true] at h
    have := h (p, j) (by rw [List.mem_zipIdx_iff_getElem?]; simpa using hj)
    simpa [hne] using this
  have hall : ∀ (listed : Array Bool) (A : Act) (W : World), listed.size = l.length → C W → Same0 (l.map (·.dst)) a0 A → (∀ j, listed.getD j false = true → Fact G A.eval W j) → Region.ready .any l.toArray listed = [] → Q .normal A W := by
    intro listed A W hs hC hS hF hr
    refine hQ _ _ (hfin A W hC hS fun j hj => hF j ?_)
    -- the least one that is not listed would be ready
    have key : ∀ k, k < l.length → listed.getD k false = true := by
      intro k
      induction k using Nat.strongRecOn with
      | _ k ih =>
        intro hk
        cases hv : listed.getD k false with
        | true => rfl
        | false =>
          exfalso
          have hmem : k ∈ Region.ready .any l.toArray listed := by
            rw [mem_ready]
            have hkl : k < listed.size := by omega
            refine ⟨by simpa [Array.getD_eq_getD_getElem?, hkl] using hv, l[k], by simp, fun e he hb => ?_⟩
            have := (hback k _ (List.getElem?_eq_getElem hk)).1 e he hb
            exact ih e.on this (by omega)
          rw [hr] at hmem
          cases hmem
    exact key j hj
  intro fuel
  induction fuel with
  | zero =>
    intro listed A W hs hcount hC hS hF
    have hr : Region.ready .any l.toArray listed = [] := by
      rw [List.eq_nil_iff_forall_not_mem]
      intro k hk
      rw [mem_ready] at hk
      obtain ⟨h0, o, ho, _⟩ := hk
      have hkl : k < l.length := by simpa using (Array.getElem?_eq_some_iff.1 ho).1
      have : k ∈ (List.range l.length).filter fun j => !listed.getD j true := by simp [hkl]; simpa using h0
      have := List.length_pos_of_mem this
      omega
    exact ⟨hr, hall listed A W hs hC hS hF hr⟩
  | succ fuel ih =>
    intro listed A W hs hcount hC hS hF
    refine ⟨hall listed A W hs hC hS hF, fun i hi => ?_⟩
    rw [mem_ready] at hi
    obtain ⟨h0, o, ho, hdeps⟩ := hi
    have hil : i < l.length := by simpa using (Array.getElem?_eq_some_iff.1 ho).1
    have hlo : l[i]? = some o := by simpa using ho
    obtain ⟨U, hU, hst, hstep⟩ := hops i o hlo
    obtain ⟨hb, hdb, hgb⟩ := hback i o hlo
    have htake : ∀ j, j < i → Fact (G.take i) A.eval W j = Fact G A.eval W j := fun j hj => by
      unfold Fact; rw [List.getElem?_take, if_pos hj]
    have hstep' := hstep A W hC hS (fun e he hbd => by rw [htake e.on (hb e he hbd)]; exact hF e.on (hdeps e he hbd))
    have hrun : Region.wanted o (yielded l.toArray A.tmps) = runs (G.take i) A.eval o.guard := by
      unfold Region.wanted runs
      cases hg : o.guard with
      | none => rfl
      | some jb =>
        obtain ⟨j, b⟩ := jb
        obtain ⟨hj, _⟩ := hgb j b hg
        have hjl : j < l.length := by omega
        obtain ⟨Uj, hUj, _⟩ := hops j l[j] (List.getElem?_eq_getElem hjl)
        simp only [List.getElem?_take, if_pos hj, hUj]
        cases hd : (l[j]).dst with
        | none =>
          simp only [yielded]
          simp [List.getElem?_eq_getElem hjl, hd]
        | some d => exact yielded_isB (by simp) hd b
    -- what stands behind the operation
    have hnext : ∀ (v : Value) (W' : World), C W' → (∀ j d V, G[j]? = some (d, V) → listed.getD j false = true → ∀ u, V u W → V u W') → U (if o.dst.isSome then v else undef) W' →
        wpAny P .any l.toArray Q fuel (listed.setIfInBounds i true) (A.put o.dst v) W' := by
      intro v W' hC' hkeep hUv
      refine ih _ _ _ (by simpa using hs) ?_ hC' (same0_put hS (by rw [List.mem_map]; exact ⟨o, List.mem_of_getElem? hlo, rfl⟩) v) ?_
      · have hsub : ((List.range l.length).filter fun j => !(listed.setIfInBounds i true).getD j true).length < ((List.range l.length).filter fun j => !listed.getD j true).length := by
          have h1 : (List.range l.length).filter (fun j => !(listed.setIfInBounds i true).getD j true) = ((List.range l.length).filter fun j => !listed.getD j true).filter (fun j => j != i) := by
            rw [List.filter_filter]
            refine List.filter_congr fun j hj => ?_
            by_cases hji : j = i
            · subst hji
              simp [Array.getD_eq_getD_getElem?, show j < listed.size by omega]
            · rw [getD_set_ne true (Ne.symm hji)]; simp [hji]
          rw [h1]
          have hmem : i ∈ (List.range l.length).filter fun j => !listed.getD j true := by simp [hil]; simpa using h0
          refine Nat.lt_of_le_of_ne (List.length_filter_le _ _) fun he => ?_
          have := (List.length_filter_eq_length_iff.1 he) i hmem
          simp at this
        omega
      · intro j hj
        by_cases hji : j = i
        · subst hji
          unfold Fact
          rw [hU]
          cases hd : o.dst with
          | none => simpa [hd, atD] using hUv
          | some d =>
            have hsz : d < A.tmps.size := by rw [hS.2.1]; exact hdb d hd
            simp only [atD, eval_put_self hsz]
            simpa [hd] using hUv
        · rw [getD_set_ne false (Ne.symm hji)] at hj
          have hFj := hF j hj
          unfold Fact at hFj ⊢
          cases hGj : G[j]? with
          | none => trivial
          | some dV =>
            obtain ⟨d, V⟩ := dV
            rw [hGj] at hFj
            have hval : atD (A.put o.dst v).eval d = atD A.eval d := by
              cases d with
              | none => rfl
              | some d =>
                cases hdo : o.dst with
                | none => rfl
                | some d' =>
                  simp only [atD]
                  refine eval_put_ne fun he => ?_
                  have hjl : j < l.length := by rw [← hlen]; exact (List.getElem?_eq_some_iff.1 hGj).1
                  obtain ⟨Uj, hUj, _⟩ := hops j l[j] (List.getElem?_eq_getElem hjl)
                  rw [hGj] at hUj
                  injection hUj with hUj
                  have hdj : (l[j]).dst = some d := (Prod.mk.inj hUj).1.symm
                  exact hdist i j o _ d' hlo (List.getElem?_eq_getElem hjl) hdo (Ne.symm hji) (by rw [hdj, he])
            show V (atD (A.put o.dst v).eval d) W'
            rw [hval]
            exact hkeep j d V hGj hj _ hFj
    have hstab : ∀ W', C W' → R W W' → ∀ j d V, G[j]? = some (d, V) → listed.getD j false = true → ∀ u, V u W → V u W' := by
      intro W' hC' hR j d V hGj hj u hu
      have hjl : j < l.length := by rw [← hlen]; exact (List.getElem?_eq_some_iff.1 hGj).1
      obtain ⟨Uj, hUj, hstj, _⟩ := hops j l[j] (List.getElem?_eq_getElem hjl)
      rw [hGj] at hUj
      injection hUj with hUj
      have hV : V = Uj := (Prod.mk.inj hUj).2
      subst hV
      exact hstj u W W' hC' hR hu
    unfold wpOp
    simp only [ho]
    rw [hrun]
    cases hw : runs (G.take i) A.eval o.guard with
    | false =>
      rw [hw] at hstep'
      simp only [Bool.false_eq_true, if_false] at hstep' ⊢
      exact hnext undef W hC (fun _ _ _ _ _ _ h => h) (by cases hds : o.dst.isSome <;> simpa using hstep')
    | true =>
      rw [hw] at hstep'
      simp only [if_true] at hstep' ⊢
      left
      unfold Oper.wp
      unfold opGives opPost at hstep'
      generalize (execOp A.eval o).run P W = r at hstep'
      cases r with
      | halt x w' => exact hstep'.elim
      | ok nx w' =>
        cases nx with
        | value v => obtain ⟨⟨h1, h2⟩, h3⟩ := hstep'; exact hnext v w' h1 (hstab w' h1 h2) h3
        | skip => obtain ⟨⟨h1, h2⟩, h3⟩ := hstep'; exact hnext undef w' h1 (hstab w' h1 h2) (by cases hds : o.dst.isSome <;> simpa [hds] using h3)
        | enter f args =>
          refine Calls.mono (R' := _) hstep' ?_
          rintro e w'' ⟨v, rfl, ⟨h1, h2⟩, h3⟩
          exact hnext v w'' h1 (hstab w'' h1 h2) h3
        | _ => exact hstep'.elim

/-- **ONE WALK IN THE ORDER OF THE TEXT SERVES EVERY ORDER.** -/
theorem wp_region_tame {id : Nat} {Q : Exit → Act → World → Prop} {w : World} (C : World → Prop) (R : World → World → Prop) (hm : P.follows .mixedOrders = true) (n : Nat) (hn : a0.tmps.size = n) (hB : tameB l n = true) (hC : C w.drew)
    (h : wpTame P C R (l.map (·.dst)) a0 (fun A W => Q .normal A W) l.length l []) : (Code.region id l.toArray true).wp P Q a0 w := by
  subst hn
  obtain ⟨G, hlen, _, hfin, hops⟩ := wpTame_facts l [] h
  refine wp_region_any hm (tame_any (Q := Q) (Qn := fun A W => Q .normal A W) (fun _ _ h => h) hB G (by simpa using hlen) hfin (by simpa using hops) _ _ _ _ (by simp) ?_ hC ⟨rfl, rfl, fun _ _ => rfl⟩ ?_)
  · refine Nat.le_trans (List.length_filter_le _ _) (by simp)
  · intro j hj
    have : (Array.replicate l.toArray.size false).getD j false = false := by
      rw [Array.getD_eq_getD_getElem?, Array.getElem?_replicate]; split <;> rfl
    rw [this] at hj
    cases hj

/-! What a step is shown in: any reading of the operands that knows what stands outside the region, and what was made ahead. -/
structure Rd (a0 : Act) (ds : List (Option Tmp)) (ρ : Operand → Value) : Prop where
  c : ∀ v, ρ (.const v) = v
  g : ∀ g, ρ (.global g) = .pointer (some ⟨g, 0, none⟩)
  f : ∀ f, ρ (.func f) = .func (.func f) #[] #[]
  s : ∀ t, notIn ds t = true → ρ (.tmp t) = a0.eval (.tmp t)
theorem Rd.of {ds : List (Option Tmp)} {A : Act} (h : Same0 ds a0 A) : Rd a0 ds A.eval := ⟨fun _ => rfl, fun _ => rfl, fun _ => rfl, h.2.2⟩

variable {ds : List (Option Tmp)} {Q : Act → World → Prop} {n : Nat} {o : Oper} {rest : List Oper} {F : Facts}
theorem tame_n (U : Value → World → Prop) (hst : ∀ v W W', C W' → R W W' → U v W → U v W')
    (hstep : ∀ ρ W, C W → Rd a0 ds ρ → (∀ e ∈ o.after, Region.binds .any e = true → Fact F ρ W e.on) → if runs F ρ o.guard then opGives P C R o ρ W (fun v => U (if o.dst.isSome then v else undef)) else U undef W)
    (h : wpTame P C R ds a0 Q n rest (F ++ [(o.dst, U)])) : wpTame P C R ds a0 Q n (o :: rest) F :=
  ⟨U, hst, fun A W hC hS hD => hstep A.eval W hC (Rd.of hS) hD, h⟩
theorem tame_q {d : Tmp} (hd : o.dst = some d) (v0 : Value)
    (hstep : ∀ ρ W, C W → Rd a0 ds ρ → (∀ e ∈ o.after, Region.binds .any e = true → Fact F ρ W e.on) → if runs F ρ o.guard then opGives P C R o ρ W (fun v _ => Is v0 v) else Is v0 undef)
    (h : wpTame P C R ds a0 Q n rest (F ++ [(some d, fun v _ => v = v0)])) : wpTame P C R ds a0 Q n (o :: rest) F := by
  refine tame_n (fun v _ => Is v0 v) (fun _ _ _ _ _ h => h) ?_ (hd ▸ h)
  intro ρ W hC hr hD
  have := hstep ρ W hC hr hD
  rw [hd]
  exact this
theorem tame_v {d : Tmp} (hd : o.dst = some d) (U : Value → World → Prop) (hst : ∀ v W W', C W' → R W W' → U v W → U v W')
    (hstep : ∀ ρ W, C W → Rd a0 ds ρ → (∀ e ∈ o.after, Region.binds .any e = true → Fact F ρ W e.on) → if runs F ρ o.guard then opGives P C R o ρ W U else U undef W)
    (h : wpTame P C R ds a0 Q n rest (F ++ [(some d, U)])) : wpTame P C R ds a0 Q n (o :: rest) F := by
  refine tame_n U hst ?_ (hd ▸ h)
  intro ρ W hC hr hD
  have := hstep ρ W hC hr hD
  rw [hd]
  exact this

/-- The frame, slot by slot. -/
def evs (ρ : Operand → Value) : Nat → Nat → List Value
  | _, 0 => []
  | s, k + 1 => ρ (.tmp s) :: evs ρ (s + 1) k
theorem evs_get (ρ : Operand → Value) : ∀ (k s j : Nat), j < k → (evs ρ s k)[j]? = some (ρ (.tmp (s + j)))
  | k + 1, s, 0, _ => rfl
  | k + 1, s, j + 1, h => by
    rw [evs, List.getElem?_cons_succ, evs_get ρ k (s + 1) j (by omega), show s + 1 + j = s + (j + 1) from by omega]
theorem evs_len (ρ : Operand → Value) : ∀ (k s : Nat), (evs ρ s k).length = k
  | 0, _ => rfl
  | k + 1, s => by rw [evs, List.length_cons, evs_len]
theorem frame_lit {A : Act} {m : Nat} (h : A.tmps.size = m) : A = { tmps := (evs A.eval 0 m).toArray, defers := A.defers } := by
  obtain ⟨tmps, defers⟩ := A
  congr 1
  apply Array.ext_getElem?
  intro j
  by_cases hj : j < m
  · have hj' : j < tmps.size := by simpa using h ▸ hj
    have h2 : (evs (Act.eval { tmps, defers }) 0 m).toArray[j]? = some (Act.eval { tmps, defers } (.tmp (0 + j))) := by rw [List.getElem?_toArray]; exact evs_get _ m 0 j hj
    rw [h2, Nat.zero_add]
    simp [Act.eval, hj']
  · have h1 : tmps.size ≤ j := by have : tmps.size = m := h; omega
    rw [Array.getElem?_eq_none h1, List.getElem?_toArray, List.getElem?_eq_none (by rw [evs_len]; omega)]
def allF : Facts → (Operand → Value) → World → Prop
  | [], _, _ => True
  | (d, U) :: F, ρ, W => U (atD ρ d) W ∧ allF F ρ W
theorem allF_of : ∀ (F : Facts) (ρ : Operand → Value) (W : World), (∀ j, j < F.length → Fact F ρ W j) → allF F ρ W
  | [], _, _, _ => trivial
  | (d, U) :: F, ρ, W, h => ⟨h 0 (by simp), allF_of F ρ W fun j hj => h (j + 1) (by simpa using hj)⟩
theorem tame_end (m : Nat) (hm : a0.tmps.size = m) (hn : n = F.length) (h : ∀ ρ W, C W → Rd a0 ds ρ → allF F ρ W → Q { tmps := (evs ρ 0 m).toArray, defers := a0.defers } W) : wpTame P C R ds a0 Q n [] F := by
  intro A W hC hS hF
  rw [frame_lit (A := A) (m := m) (by rw [hS.2.1, hm]), hS.1]
  exact h A.eval W hC (Rd.of hS) (allF_of _ _ _ (hn ▸ hF))
theorem frame_to {l l' : List Value} {dfs : List Deferred} {W : World} (hl : IsL l' l) (h : Q { tmps := l'.toArray, defers := dfs } W) : Q { tmps := l.toArray, defers := dfs } W := by
  unfold IsL at hl; rw [hl]; exact h
end
attribute [go_sem] evs allF
attribute [go_sem] Fact atD runs isB notIn opGives opPost Region.binds
@[go_sem ↓] theorem execOp_call_fn (ρ : Operand → Value) (h : ∀ f, ρ (.func f) = .func (.func f) #[] #[]) (dst : Option Tmp) (f : FuncId) (xs : Array Operand) (ats : Array TypeId) (ty : TypeId) (pos : String) (after : Array Edge) (guard : Option (Nat × Bool)) :
    execOp ρ { dst, op := .call { callee := .value (.func f), args := xs, argTypes := ats }, type := ty, pos, after, guard } = callFunc f (xs.map ρ) := by
  simp only [execOp, resolve, Deferred.ofValue, h]
  show callFunc f (#[] ++ xs.map ρ ++ #[]) = _
  simp

/-! A region that stores, last, into a block of the call's own. -/
def CS (w : World) (g : Nat) (t : TypeId) (k : Nat) (W : World) : Prop := w.grownBy W (some g) ∧ ∃ cs, Blk W g t cs ∧ cs.size = k
def RS (g : Nat) (t : TypeId) (fin : Array Value) (W W' : World) : Prop := W.grownBy W' (some g) ∧ (Blk W g t fin → Blk W' g t fin)
theorem RS.refl {g : Nat} {t : TypeId} {fin : Array Value} (W : World) : RS g t fin W W := ⟨World.grownBy.refl _ _, fun h => h⟩
theorem RS.ext {g : Nat} {t : TypeId} {fin : Array Value} {W W' : World} (h : Ext W W') : RS g t fin W W' := ⟨⟨h.os, h.tape, h.output, h.size, fun i hi _ => h.block i hi⟩, fun hB => hB.ext h⟩
theorem CS.ext {w : World} {g : Nat} {t : TypeId} {k : Nat} {W W' : World} (hC : CS w g t k W) (h : Ext W W') : CS w g t k W' := by
  obtain ⟨h1, cs, h2, h3⟩ := hC
  exact ⟨grown_ext h1 h, cs, h2.ext h, h3⟩
theorem CS.start {w : World} {g : Nat} {t : TypeId} {cs : Array Value} (h : Blk w g t cs) : CS w g t cs.size w.drew := ⟨⟨rfl, rfl, rfl, Nat.le_refl _, fun _ _ _ => rfl⟩, cs, h, rfl⟩
theorem CS.cell {w : World} {g : Nat} {t : TypeId} {k : Nat} {W : World} (hC : CS w g t k W) {b : Nat} (hb : b < w.heap.size) (hne : b ≠ g) (i : Nat) : W.cell? ⟨b, i, none⟩ = w.cell? ⟨b, i, none⟩ :=
  World.cell?_of_block (a := ⟨b, i, none⟩) (hC.1.block b hb (by intro h; injection h with h; exact hne h))
/-- A row of eight cells is written over, cell by cell. -/
abbrev set8 (W : World) (g : Nat) (y0 y1 y2 y3 y4 y5 y6 y7 : Value) : World :=
  (((((((W.setCell ⟨g, 0, none⟩ y0).setCell ⟨g, 1, none⟩ y1).setCell ⟨g, 2, none⟩ y2).setCell ⟨g, 3, none⟩ y3).setCell ⟨g, 4, none⟩ y4).setCell ⟨g, 5, none⟩ y5).setCell ⟨g, 6, none⟩ y6).setCell ⟨g, 7, none⟩ y7
theorem Blk.set8 {W : World} {g : Nat} {t : TypeId} {x0 x1 x2 x3 x4 x5 x6 x7 : Value} (h : Blk W g t #[x0, x1, x2, x3, x4, x5, x6, x7]) (y0 y1 y2 y3 y4 y5 y6 y7 : Value) :
    Blk (set8 W g y0 y1 y2 y3 y4 y5 y6 y7) g t #[y0, y1, y2, y3, y4, y5, y6, y7] := by
  have := (((((((h.set_ 0 y0).set_ 1 y1).set_ 2 y2).set_ 3 y3).set_ 4 y4).set_ 5 y5).set_ 6 y6).set_ 7 y7
  simpa using this
theorem grown_set8 {a W : World} {g : Nat} (h : a.grownBy W (some g)) (y0 y1 y2 y3 y4 y5 y6 y7 : Value) : a.grownBy (set8 W g y0 y1 y2 y3 y4 y5 y6 y7) (some g) :=
  grown_set (grown_set (grown_set (grown_set (grown_set (grown_set (grown_set (grown_set h (p := ⟨g, 0, none⟩) (.inl rfl) y0) (p := ⟨g, 1, none⟩) (.inl rfl) y1) (p := ⟨g, 2, none⟩) (.inl rfl) y2) (p := ⟨g, 3, none⟩) (.inl rfl) y3) (p := ⟨g, 4, none⟩) (.inl rfl) y4) (p := ⟨g, 5, none⟩) (.inl rfl) y5) (p := ⟨g, 6, none⟩) (.inl rfl) y6) (p := ⟨g, 7, none⟩) (.inl rfl) y7
theorem store8 {wr W : World} {g : Nat} {t : TypeId} {x0 x1 x2 x3 x4 x5 x6 x7 : Value} (hg : wr.grownBy W (some g)) (h : Blk W g t #[x0, x1, x2, x3, x4, x5, x6, x7]) (y0 y1 y2 y3 y4 y5 y6 y7 : Value) :
    CR (fun W => CS wr g t 8 W) (fun W W' => RS g t #[y0, y1, y2, y3, y4, y5, y6, y7] W W') W (set8 W g y0 y1 y2 y3 y4 y5 y6 y7) ∧ Blk (set8 W g y0 y1 y2 y3 y4 y5 y6 y7) g t #[y0, y1, y2, y3, y4, y5, y6, y7] :=
  ⟨⟨⟨grown_set8 hg .., _, h.set8 .., rfl⟩, grown_set8 (World.grownBy.refl _ _) .., fun _ => h.set8 ..⟩, h.set8 ..⟩
/- The run of operations that only reckon or read, in a region that draws its order. -/

end Go.Proofs.YtcoiahjehlplfaaDoor
/- core.opened, core.grown: a press holds what is known of the layers and the dry weights that can be. -/
namespace Go.Proofs.YtcoiahjehlplfaaDoor
open Go.RowKit Go.Shelf
set_option maxRecDepth 100000

abbrev valP (b : Bale) (dv wv sv lv : Value) : Value := .agg #[.int .i64 b.id, .int .i64 b.layers, .int .i64 b.dry.lo, .int .i64 b.dry.hi, dv, wv, sv, lv]

theorem f122_any (s : Span) (w : World) : Calls Tryd.prog 122 #[valS s] w fun e w' => e = .returned (.bool (!okS s)) ∧ Ext w w' := by
  go_enter Tryd.func122, Tryd.ntmps122
  go_wp2
  all_goals go_ret
  all_goals exact ⟨ret_bool (by unfold okS; first | (simp [*]; done) | (rw [Bool.eq_iff_iff]; simp)), Ext.al _ _⟩
theorem grown_any (b : Bale) (dv wv sv lv : Value) (l : List Span) (l2 : List Int) (w : World) (hd : SlD w dv b.draws) (hw : SlW w wv b.weighs) (hs : SlS w sv l) (hl : SlI w lv l2) :
    Calls Tryd.prog 87 #[valP b dv wv sv lv] w fun e w' => e = .returned (.bool (grown l)) ∧ Ext w w' := by
  obtain ⟨A, n, cp, rfl, hn, hlc, hcm⟩ := hd.form
  obtain ⟨A2, n2, cp2, rfl, hn2, hlc2, hcm2⟩ := hw.form
  obtain ⟨A3, n3, cp3, rfl, hn3, hlc3, hcm3⟩ := hs.form
  obtain ⟨A4, n4, cp4, rfl, hn4, hlc4, hcm4⟩ := hl.form
  have HS := Lib.hid hs; clear hd hw hs hl
  go_enter Tryd.func87, Tryd.ntmps87
  go_wp2_with fail
  refine (f121_any 122 _ (enters_of Tryd.func122 (by kernel_rfl) rfl) (fun s => !okS s) l _ _ (HS.out.ext (Ext.al _ _)) ?_).mono ?_
  · intro W x _ hW
    exact f122_any x W
  rintro e w1 ⟨rfl, hb1⟩
  generalize hr : (l.any fun s => !okS s) = r
  have HR := Lib.hid hr; clear hr
  go_wp2
  go_ret
  exact ⟨ret_bool (by rw [← HR.out]; unfold grown; rw [List.all_eq_not_any_not]), (Ext.al _ _).trans hb1⟩

def okB (b : Bale) : Bool := grown (spans b) && !(dries b).isEmpty
def OpenedPost (b : Bale) (dv wv : Value) (w : World) (e : Ending) (w' : World) : Prop :=
  ∃ sv lv, e = .returned (.tuple #[valP b dv wv sv lv, .bool (okB b)]) ∧ Own encS 23 2 w' w.heap.size sv (spans b) ∧ Own encI 3 1 w' w.heap.size lv (dries b) ∧ Ext w w'
theorem OpenedPost.of {b : Bale} {dv wv sv lv : Value} {w w' : World} {g : Bool} (hg : g = okB b) (h1 : Own encS 23 2 w' w.heap.size sv (spans b)) (h2 : Own encI 3 1 w' w.heap.size lv (dries b)) (hE : Ext w w') : OpenedPost b dv wv w (.returned (.tuple #[valP b dv wv sv lv, .bool g])) w' := by
  subst hg; exact ⟨sv, lv, rfl, h1, h2, hE⟩

set_option maxHeartbeats 2000000 in
theorem opened_any (b : Bale) (dv wv : Value) (w : World) (hd : SlD w dv b.draws) (hw : SlW w wv b.weighs) (hl1 : 1 ≤ b.layers) (hl5 : b.layers ≤ 5) (hb1 : 1 ≤ b.dry.lo) (hb2 : b.dry.lo ≤ b.dry.hi) (hb3 : b.dry.hi ≤ 600)
    (hbw : ∀ x ∈ b.weighs, 0 ≤ x.damp.lo ∧ x.damp.lo ≤ 1000000 ∧ 0 ≤ x.damp.hi ∧ x.damp.hi ≤ 1000000) :
    Calls Tryd.prog 48 #[valB b dv wv] w (OpenedPost b dv wv w) := by
  have HD := Lib.hid hd
  have HW := Lib.hid hw
  have HBW := Lib.hid hbw
  obtain ⟨A, n, cp, rfl, hn, hlc, hcm⟩ := hd.form
  obtain ⟨A2, n2, cp2, rfl, hn2, hlc2, hcm2⟩ := hw.form
  clear hd hw hbw
  go_enter Tryd.func48, Tryd.ntmps48
  go_wp2
  go_step3
  go_wp2
  go_loopg [16] 5 (fun gg s wr => ∃ (kk : Nat) (As : Option Addr) (cs : Nat), (kk : Int) ≤ b.layers ∧ (b.layers - kk).toNat ≤ gg ∧ s = .int .i64 kk ∧ Aside (Own encS 23 2 wr (w.heap.size + 3) (.slice As kk cs) (spansTo b kk)) ∧
    Aside (Blk wr (w.heap.size + 2) 82 #[.int .i64 b.id, .int .i64 b.layers, .int .i64 b.dry.lo, .int .i64 b.dry.hi, .slice A n cp, .slice A2 n2 cp2, .slice As kk cs, .slice none 0 0]) ∧
    Aside (Blk wr w.heap.size 27 #[.int .i64 b.id, .int .i64 b.layers, .int .i64 b.dry.lo, .int .i64 b.dry.hi, .slice A n cp, .slice A2 n2 cp2]) ∧
    Aside (Blk wr (w.heap.size + 1) 82 #[.int .i64 0, .int .i64 0, .int .i64 0, .int .i64 0, .slice none 0 0, .slice none 0 0, .slice none 0 0, .slice none 0 0]) ∧ Aside (Ext w wr))
  case atStart => exact ⟨0, none, 0, by omega, by omega, rfl, Own.nil _ _, Blk.at_ (by simp), ((Blk.at_ rfl).alloc _).alloc _, (Blk.at_ (by simp)).alloc _, ((Ext.al w _).alloc _).alloc _⟩
  case round =>
    obtain ⟨kk, As, cs, hkk, hg, rfl, OW, BP, BB, BR, EW⟩ := hrel
    have q1 : wr.cell? ⟨w.heap.size, 1, none⟩ = some (.int .i64 b.layers) := BB.out.cell 1
    have q2 : wr.cell? ⟨w.heap.size, 2, none⟩ = some (.int .i64 b.dry.lo) := BB.out.cell 2
    have q3 : wr.cell? ⟨w.heap.size, 3, none⟩ = some (.int .i64 b.dry.hi) := BB.out.cell 3
    have q4 : wr.cell? ⟨w.heap.size, 4, none⟩ = some (.slice A n cp) := BB.out.cell 4
    have q5 : wr.cell? ⟨w.heap.size, 5, none⟩ = some (.slice A2 n2 cp2) := BB.out.cell 5
    have p6 : wr.cell? ⟨w.heap.size + 2, 6, none⟩ = some (.slice As kk cs) := BP.out.cell 6
    have p6f : wr.frozen? ⟨w.heap.size + 2, 6, none⟩ = false := BP.out.frozen 6
    have hz2 : w.heap.size + 2 < wr.heap.size := BP.out.lt
    have hz1 : w.heap.size < wr.heap.size := by omega
    by_cases hlt : (kk : Int) < b.layers
    ·
      -- BLOCK A
      obtain ⟨wo, hwo⟩ : ∃ wo : World, wo = wr := ⟨_, rfl⟩
      subst hwo
      go_wp2
      go_loopg [23] n (fun gg s wr => ∃ (j : Nat) (lo hi : Int), j ≤ n ∧ n - j ≤ gg ∧ s = .int .i64 j ∧ Aside ((b.draws.take j).foldl (spanStep kk) ⟨1, 9⟩ = ⟨lo, hi⟩) ∧ Aside (Blk wr wo.heap.size 23 #[.int .i64 lo, .int .i64 hi]) ∧ Aside (Ext wo wr))
      case atStart => exact ⟨0, 1, 9, Nat.zero_le _, by omega, rfl, rfl, Blk.new _ _ _, Ext.al _ _⟩
      case round =>
        obtain ⟨j, lo, hi, hj, hgj, rfl, FO, BL, EX⟩ := hrel
        have s0 : wr.cell? ⟨wo.heap.size, 0, none⟩ = some (.int .i64 lo) := BL.out.cell 0
        have s1 : wr.cell? ⟨wo.heap.size, 1, none⟩ = some (.int .i64 hi) := BL.out.cell 1
        have f0 : wr.frozen? ⟨wo.heap.size, 0, none⟩ = false := BL.out.frozen 0
        have f1 : wr.frozen? ⟨wo.heap.size, 1, none⟩ = false := BL.out.frozen 1
        have hso : wo.heap.size < wr.heap.size := BL.out.lt
        by_cases hjn : j < n
        · have hjz : (j : Int) < (n : Int) := by omega
          obtain ⟨bb, off, x, rfl, hx, hb, hcell⟩ := HD.out.at_ hjn
          obtain ⟨c0, c1, c2, c3⟩ := SlD.cells hcell (EW.out.trans EX.out)
          have HX := Lib.hid hx; clear hx hcell hb
          have HFO := Lib.hid (foldl_snoc (spanStep kk) ⟨1, 9⟩ _ _ _ HX.out)
          have el := eql63l x.number x.layer x.grade.lo x.grade.hi kk
          by_cases he : x.layer = kk
          · have HE := Lib.hid he
            have he' : (x.layer == (kk : Int)) = true := by simpa using he
            clear he
            go_wp2
            go_region
            all_goals (try go_wp2)
            go_roundg (n - (j + 1))
            case measure => omega
            case rel => exact ⟨j + 1, max lo x.grade.lo, min hi x.grade.hi, by omega, by omega, rfl, by show _ = _; rw [HFO.out, FO.out, spanStep, if_pos HE.out], ((BL.out.set_ 0 _).set_ 1 _).alloc _, (((EX.out.setCell (Nat.le_refl _) _).setCell (Nat.le_refl _) _).alloc _).drew⟩
          · have HE := Lib.hid he
            have he' : (x.layer == (kk : Int)) = false := by simpa using he
            clear he
            go_wp2
            go_roundg (n - (j + 1))
            case measure => omega
            case rel => exact ⟨j + 1, lo, hi, by omega, by omega, rfl, by show _ = _; rw [HFO.out, FO.out, spanStep, if_neg HE.out], BL.out.alloc _, EX.out.alloc _⟩
        · have HSP := Lib.hid (show spanAt b.draws kk = ⟨lo, hi⟩ by unfold spanAt; rw [← FO.out, List.take_of_length_le (by have := hn.out; omega)])
          have HOL := Lib.hid (spansTo_len b kk)
          have p6' : wr.cell? ⟨w.heap.size + 2, 6, none⟩ = some (.slice As kk cs) := (EX.out.cells.1 _ _ hz2).trans p6
          have p6f' : wr.frozen? ⟨w.heap.size + 2, 6, none⟩ = false := (EX.out.cells.2 _ _ hz2).trans p6f
          have hz2' : w.heap.size + 2 < wr.heap.size := by have := EX.out.size; omega
          have OW' : Aside (Own encS 23 2 wr (w.heap.size + 3) (.slice As (spansTo b kk).length cs) (spansTo b kk)) := by rw [HOL.out]; exact OW.out.ext EX.out
          have HBP := Lib.hid (BP.out.ext EX.out)
          have HBB := Lib.hid (BB.out.ext EX.out)
          have HBR := Lib.hid (BR.out.ext EX.out)
          have HEW := Lib.hid (EW.out.trans EX.out)
          clear p6 p6f BP BB BR EW OW
          go_wp2_with (at_builtin; refine wpList_app encS 80 23 2 _ 16 Tryd.underlying80 info23x rfl (by decide) (by decide) (fun _ => rfl) encS_one rfl (.tmp 51) (.tmp 53) rfl (w.heap.size + 3) _ (spansTo b kk) (by rw [HOL.out]; rfl) (OW'.out.alloc _) wr.heap.size 1 ⟨lo, hi⟩ rfl (cells2 (by simp [go_sem]) (by simp [go_sem])) (by rw [HOL.out]; omega) (by simp; omega) ?_)
          intro g cap w' hown hg2 hbel _
          have HBP2 := Lib.hid ((HBP.out.alloc _).below hbel (by omega))
          have q6 := HBP2.out.cell 6
          have q6f := HBP2.out.frozen 6
          have HBB2 := Lib.hid ((HBB.out.alloc _).below hbel (by omega))
          have HBR2 := Lib.hid ((HBR.out.alloc _).below hbel (by omega))
          have HE2 := Lib.hid (show Ext w w' from Below.trans (HEW.out.alloc (.cells #[.int .i64 lo, .int .i64 hi] 23)) (hbel.mono (by omega)))
          have HO := Lib.hid hown; clear hown hbel p6' p6f'
          go_wp2
          go_roundg (b.layers - (kk + 1)).toNat
          case measure => omega
          case rel => exact ⟨kk + 1, some ⟨g, 0, none⟩, cap, by omega, by omega, rfl, by
              show Own _ _ _ _ _ _ _
              rw [spansTo_succ, HSP.out]; have := HO.out; rw [HOL.out] at this; exact this.far (by first | omega | (dsimp only; omega)) _, by
              show Blk _ _ _ _
              have := HBP2.out.set_ 6 (.slice (some ⟨g, 0, none⟩) ((spansTo b kk).length + 1) cap)
              rw [HOL.out] at this ⊢
              exact this, HBB2.out.far (by first | omega | (dsimp only; omega)) _, HBR2.out.far (by first | omega | (dsimp only; omega)) _, HE2.out.setCell (by first | omega | (dsimp only; omega)) _⟩
      -- END A
    · obtain ⟨w2, hw2⟩ : ∃ w2 : World, w2 = wr := ⟨_, rfl⟩
      subst hw2
      have HSP := Lib.hid (show spansTo b kk = spans b by unfold spans; rw [show b.layers.toNat = kk by omega])
      go_wp2
      go_step3
      go_wp2
      go_loopg [9] 600 (fun gg s wr => ∃ (k2 : Nat) (d : Int) (Al : Option Addr) (cl : Nat), s = .int .i64 d ∧ Aside (d = b.dry.lo + k2) ∧ b.dry.lo ≤ d ∧ d ≤ b.dry.hi + 1 ∧ (b.dry.hi + 1 - d).toNat ≤ gg ∧ Aside (Own encI 3 1 wr w2.heap.size (.slice Al (driesTo b k2).length cl) (driesTo b k2)) ∧
        Aside (Blk wr (w.heap.size + 2) 82 #[.int .i64 b.id, .int .i64 b.layers, .int .i64 b.dry.lo, .int .i64 b.dry.hi, .slice A n cp, .slice A2 n2 cp2, .slice As kk cs, .slice Al (driesTo b k2).length cl]) ∧ Aside (w2.grownBy wr (some (w.heap.size + 2))))
      case atStart => exact ⟨0, b.dry.lo, none, 0, rfl, by show _ = _; simp, by omega, by omega, by omega, Own.nil _ _, BP.out, World.grownBy.refl _ _⟩
      case round =>
        obtain ⟨k2, d, Al, cl, rfl, DK, hd1, hd2, hg, OL, BP2, GW⟩ := hrel
        have BB2 := Lib.hid (BB.out.grown GW.out (by simp))
        have BR2 := Lib.hid (BR.out.grown GW.out (by simp))
        have q3 : wr.cell? ⟨w.heap.size, 3, none⟩ = some (.int .i64 b.dry.hi) := BB2.out.cell 3
        have q5 : wr.cell? ⟨w.heap.size, 5, none⟩ = some (.slice A2 n2 cp2) := BB2.out.cell 5
        have hz2 : w.heap.size + 2 < wr.heap.size := BP2.out.lt
        have hz1 : w.heap.size < wr.heap.size := by omega
        have EW2 := Lib.hid (show Ext w wr from ⟨GW.out.os.trans EW.out.os, GW.out.tape.trans EW.out.tape, GW.out.output.trans EW.out.output, Nat.le_trans EW.out.size GW.out.size, fun k hk => (GW.out.block k (Nat.lt_of_lt_of_le hk EW.out.size) (by simp; omega)).trans (EW.out.block k hk)⟩)
        by_cases hlt : d ≤ b.dry.hi
        ·
          -- BLOCK B
          obtain ⟨w3, hw3⟩ : ∃ w3 : World, w3 = wr := ⟨_, rfl⟩
          subst hw3
          go_wp2
          go_loopg [70] n2 (fun gg s wr => ∃ (j : Nat), j ≤ n2 ∧ n2 - j ≤ gg ∧ s = .int .i64 j ∧ Aside ((b.weighs.take j).all (could d) = true) ∧ Aside (Ext w3 wr))
          case atStart => exact ⟨0, Nat.zero_le _, by omega, rfl, rfl, Ext.refl _⟩
          case round =>
            obtain ⟨j, hj, hgj, rfl, IS, EX⟩ := hrel
            by_cases hjn : j < n2
            · have hjz : (j : Int) < (n2 : Int) := by omega
              obtain ⟨bb, off, x, rfl, hx, hb, hcell⟩ := HW.out.at_ hjn
              obtain ⟨c0, c1, c2, c3⟩ := SlW.cells hcell (EW2.out.trans EX.out)
              have HX := Lib.hid hx
              have HXB := Lib.hid (HBW.out x (List.mem_of_getElem? hx)); clear hx hcell hb
              have HAS := Lib.hid (all_snoc (could d) _ _ _ HX.out)
              have m1 := fun W (h : Ext (wr.alloc (.cells #[.int .i64 x.number, .int .i64 x.pounds, .int .i64 x.damp.lo, .int .i64 x.damp.hi] 65)) W) => (h.cells.1 wr.heap.size 1 (by simp)).trans (show _ = some (.int .i64 x.pounds) by simp [go_sem])
              have m2 := fun W (h : Ext (wr.alloc (.cells #[.int .i64 x.number, .int .i64 x.pounds, .int .i64 x.damp.lo, .int .i64 x.damp.hi] 65)) W) => (h.cells.1 wr.heap.size 2 (by simp)).trans (show _ = some (.int .i64 x.damp.lo) by simp [go_sem])
              have m3 := fun W (h : Ext (wr.alloc (.cells #[.int .i64 x.number, .int .i64 x.pounds, .int .i64 x.damp.lo, .int .i64 x.damp.hi] 65)) W) => (h.cells.1 wr.heap.size 3 (by simp)).trans (show _ = some (.int .i64 x.damp.hi) by simp [go_sem])
              go_wp2
              refine wp_region_tame (fun W => Ext (wr.alloc (.cells #[.int .i64 x.number, .int .i64 x.pounds, .int .i64 x.damp.lo, .int .i64 x.damp.hi] 65)) W) (fun W W' => Ext W W') (by kernel_rfl) 105 rfl (by decide +kernel) (Ext.refl _).drew ?_
              repeat
                (apply tame_q rfl
                 (intro ρ W hC hr hD
                  obtain ⟨hrc, hrg, hrf, hrs⟩ := hr
                  simp [go_sem] at hD
                  go_simp
                  exact ⟨⟨hC, Ext.refl _⟩, rfl⟩)
                 simp only [List.nil_append, List.cons_append])
              apply tame_q rfl
              · intro ρ W hC hr hD
                obtain ⟨hrc, hrg, hrf, hrs⟩ := hr
                simp [go_sem] at hD
                go_simp
                refine (f66_any d x.damp.lo _ (by omega) (by omega) HXB.out.1 HXB.out.2.1).mono ?_
                rintro e w' ⟨rfl, rfl⟩
                exact ⟨_, rfl, ⟨hC, Ext.refl _⟩, rfl⟩
              simp only [List.nil_append, List.cons_append]
              repeat
                (apply tame_q rfl
                 (intro ρ W hC hr hD
                  obtain ⟨hrc, hrg, hrf, hrs⟩ := hr
                  simp [go_sem] at hD
                  go_simp
                  exact ⟨⟨hC, Ext.refl _⟩, rfl⟩)
                 simp only [List.nil_append, List.cons_append])
              apply tame_q rfl
              · intro ρ W hC hr hD
                obtain ⟨hrc, hrg, hrf, hrs⟩ := hr
                simp [go_sem] at hD
                go_simp
                refine (f66_any d x.damp.hi _ (by omega) (by omega) HXB.out.2.2.1 HXB.out.2.2.2).mono ?_
                rintro e w' ⟨rfl, rfl⟩
                exact ⟨_, rfl, ⟨hC, Ext.refl _⟩, rfl⟩
              simp only [List.nil_append, List.cons_append]
              repeat
                (apply tame_q rfl
                 (intro ρ W hC hr hD
                  obtain ⟨hrc, hrg, hrf, hrs⟩ := hr
                  simp [go_sem] at hD
                  go_simp
                  exact ⟨⟨hC, Ext.refl _⟩, rfl⟩)
                 simp only [List.nil_append, List.cons_append])
              apply tame_v rfl (fun v W => SlI W v [x.pounds]) (fun v W W' _ hE h => h.ext hE)
              · intro ρ W hC hr hD
                obtain ⟨hrc, hrg, hrf, hrs⟩ := hr
                simp [go_sem] at hD
                go_simp
                exact ⟨⟨hC.trans (Ext.al _ _), Ext.al _ _⟩, SlI.one1 (by simp) (by simp [go_sem])⟩
              simp only [List.nil_append, List.cons_append]
              apply tame_q rfl
              · intro ρ W hC hr hD
                obtain ⟨hrc, hrg, hrf, hrs⟩ := hr
                simp [go_sem] at hD
                obtain ⟨d1, d2, d3, d4⟩ := hD
                have D3 := Lib.hid d3; clear d3
                go_simp
                refine (in_one _ _ x.pounds _ _ D3.out).mono ?_
                rintro e w' ⟨rfl, hE⟩
                exact ⟨.bool (could d x), rfl, ⟨hC.trans hE, hE⟩, rfl⟩
              simp only [List.nil_append, List.cons_append]
              repeat
                (apply tame_q rfl
                 (intro ρ W hC hr hD
                  obtain ⟨hrc, hrg, hrf, hrs⟩ := hr
                  simp [go_sem] at hD
                  go_simp
                  exact ⟨⟨hC, Ext.refl _⟩, rfl⟩)
                 simp only [List.nil_append, List.cons_append])
              refine tame_end 105 rfl rfl (fun ρ W hC hr hF => ?_)
              obtain ⟨hrc, hrg, hrf, hrs⟩ := hr
              simp [go_sem] at hF
              apply frame_to
              · go_simp
                exact rfl
              clear hF hrs hrc hrg hrf
              generalize ρ (.tmp 86) = v86
              have EX2 := Lib.hid ((EX.out.trans (Ext.al _ _)).trans hC); clear hC
              cases hcd : could d x with
              | true =>
                have HCD := Lib.hid hcd; clear hcd
                go_wp2
                go_roundg (n2 - (j + 1))
                case measure => omega
                case rel => exact ⟨j + 1, by omega, by omega, rfl, by show _ = _; rw [HAS.out, IS.out, HCD.out]; rfl, EX2.out⟩
              | false =>
                have HCD := Lib.hid hcd; clear hcd
                have HNO := Lib.hid (show b.weighs.all (could d) = false by
                  rw [List.all_eq_false]
                  exact ⟨x, List.mem_of_getElem? HX.out, by rw [HCD.out]; simp⟩)
                go_wp2
                go_roundg (b.dry.hi + 1 - (d + 1)).toNat
                case measure => omega
                case rel => exact ⟨k2 + 1, d + 1, Al, cl, rfl, by show _ = _; have := DK.out; omega, by omega, by omega, by omega, by
                  show Own _ _ _ _ _ _ _
                  rw [driesTo_succ, ← DK.out, HNO.out]; simpa using OL.out.ext EX2.out, by
                  show Blk _ _ _ _
                  rw [driesTo_succ, ← DK.out, HNO.out]; simpa using BP2.out.ext EX2.out, grown_ext GW.out EX2.out⟩
            · have HAL := Lib.hid (show b.weighs.all (could d) = true by rw [← IS.out, List.take_of_length_le (by have := hn2.out; omega)])
              have HLN := Lib.hid (driesTo_len b k2)
              have HKK := Lib.hid (show (k2 : Int) ≤ 600 by have := DK.out; omega)
              have HSU := Lib.hid (show driesTo b (k2 + 1) = driesTo b k2 ++ [d] by rw [driesTo_succ, ← DK.out, HAL.out]; rfl)
              have HBP := Lib.hid (BP2.out.ext EX.out)
              have p7 := HBP.out.cell 7
              have p7f := HBP.out.frozen 7
              have hz3 := HBP.out.lt
              have HGW := Lib.hid (grown_ext GW.out EX.out)
              go_wp2_with (at_builtin; refine wpList_app encI 56 3 1 _ 8 Tryd.underlying56 info3x rfl (by decide) (by decide) (fun _ => rfl) encI_one rfl (.tmp 91) (.tmp 93) rfl w2.heap.size _ (driesTo b k2) rfl ((OL.out.ext EX.out).alloc _) wr.heap.size 1 d rfl (cells1 (by simp [go_sem])) (by have := HLN.out; have := HKK.out; omega) (by have := EX.out.size; have := GW.out.size; simp; omega) ?_)
              intro g cap w' hown hg2 hbel hgr
              have hlt2 : w.heap.size + 2 < w2.heap.size := BP.out.lt
              have HBP2 := Lib.hid ((HBP.out.alloc _).below hbel hlt2)
              have q7 := HBP2.out.cell 7
              have q7f := HBP2.out.frozen 7
              have HG3 := Lib.hid (show w2.grownBy w' (some (w.heap.size + 2)) from grown_below (grown_ext HGW.out (Ext.al _ _)) hbel)
              have HO := Lib.hid hown; clear hown hbel hgr p7 p7f
              go_wp2
              go_roundg (b.dry.hi + 1 - (d + 1)).toNat
              case measure => omega
              case rel => exact ⟨k2 + 1, d + 1, some ⟨g, 0, none⟩, cap, rfl, by show _ = _; have := DK.out; omega, by omega, by omega, by omega, by
                show Own _ _ _ _ _ _ _
                rw [HSU.out, List.length_append]; exact HO.out.far (by first | omega | (dsimp only; omega)) _, by
                show Blk _ _ _ _
                rw [HSU.out, List.length_append]
                exact HBP2.out.set_ 7 (.slice (some ⟨g, 0, none⟩) ((driesTo b k2).length + 1) cap), grown_set HG3.out (.inl rfl) _⟩
          -- END B
        · have HDR := Lib.hid (show driesTo b k2 = dries b by unfold dries; rw [show (b.dry.hi - b.dry.lo + 1).toNat = k2 by have := DK.out; omega])
          have HOS := Lib.hid (show wr.ownsRow (w.heap.size + 3) 23 2 (.slice As kk cs) (spans b).length ((spans b).flatMap encS) by
            have h := OW.out
            rw [HSP.out] at h
            exact own_kept h GW.out (by omega))
          have HOL := Lib.hid (show wr.ownsRow w2.heap.size 3 1 (.slice Al (driesTo b k2).length cl) (dries b).length ((dries b).flatMap encI) by rw [← HDR.out]; exact OL.out)
          have hz5 : w.heap.size + 2 < w2.heap.size := BP.out.lt
          have P0 := BP2.out.cell 0
          have P1 := BP2.out.cell 1
          have P2 := BP2.out.cell 2
          have P3 := BP2.out.cell 3
          have P4 := BP2.out.cell 4
          have P5 := BP2.out.cell 5
          have P6 := BP2.out.cell 6
          have P7 := BP2.out.cell 7
          simp at P0 P1 P2 P3 P4 P5 P6 P7
          have hz3 : w.heap.size + 1 < wr.heap.size := BR2.out.lt
          have HGC := fun W (h1 : SlD W (.slice A n cp) b.draws) (h2 : SlW W (.slice A2 n2 cp2) b.weighs) (h3 : SlS W (.slice As kk cs) (spans b)) (h4 : SlI W (.slice Al (driesTo b k2).length cl) (dries b)) => grown_any b _ _ _ _ (spans b) (dries b) W h1 h2 h3 h4
          have HLN := Lib.hid (show (driesTo b k2).length = (dries b).length by rw [HDR.out])
          have HCS := fun W (h : CS wr (w.heap.size + 1) 82 8 W) (j : Nat) => (h.cell hz2 (by omega) j)
          have c0 := fun W h => (HCS W h 0).trans P0
          have c1 := fun W h => (HCS W h 1).trans P1
          have c2 := fun W h => (HCS W h 2).trans P2
          have c3 := fun W h => (HCS W h 3).trans P3
          have c4 := fun W h => (HCS W h 4).trans P4
          have c5 := fun W h => (HCS W h 5).trans P5
          have c6 := fun W h => (HCS W h 6).trans P6
          have c7 := fun W h => (HCS W h 7).trans P7
          have HST := Lib.hid (CS.start BR2.out)
          clear HCS P0 P1 P2 P3 P4 P5 P6 P7
          have HK := Lib.hid (show ∀ W, CS wr (w.heap.size + 1) 82 8 W → SlD W (.slice A n cp) b.draws ∧ SlW W (.slice A2 n2 cp2) b.weighs ∧ Own encS 23 2 W w.heap.size (.slice As kk cs) (spans b) ∧ Own encI 3 1 W w.heap.size (.slice Al (driesTo b k2).length cl) (dries b) by
            intro W hC
            have hE : Ext w W := ⟨hC.1.os.trans EW2.out.os, hC.1.tape.trans EW2.out.tape, hC.1.output.trans EW2.out.output, Nat.le_trans EW2.out.size hC.1.size, fun k hk => (hC.1.block k (Nat.lt_of_lt_of_le hk EW2.out.size) (by intro h; injection h with h; omega)).trans (EW2.out.block k hk)⟩
            exact ⟨HD.out.ext hE, HW.out.ext hE, own_mono (own_kept HOS.out hC.1 (by omega)) (by omega), own_mono (own_kept HOL.out hC.1 (by omega)) (by omega)⟩)
          cases hgr : grown (spans b)
          all_goals
            rw [hgr] at HGC
            have HG := Lib.hid HGC; clear HGC
            have HGR := Lib.hid hgr; clear hgr
            go_wp2
            refine wp_region_tame (fun W => CS wr (w.heap.size + 1) 82 8 W) (fun W W' => RS (w.heap.size + 1) 82 #[.int .i64 b.id, .int .i64 b.layers, .int .i64 b.dry.lo, .int .i64 b.dry.hi, .slice A n cp, .slice A2 n2 cp2, .slice As kk cs, .slice Al (driesTo b k2).length cl] W W') (by kernel_rfl) 105 rfl (by decide +kernel) HST.out ?_
            repeat
              (apply tame_q rfl
               (intro ρ W hC hr hD
                obtain ⟨hrc, hrg, hrf, hrs⟩ := hr
                simp [go_sem] at hD
                go_simp
                first | exact ⟨⟨hC, RS.refl _⟩, rfl⟩ | exact rfl)
               simp only [List.nil_append, List.cons_append])
            apply tame_q rfl
            · intro ρ W hC hr hD
              obtain ⟨hrc, hrg, hrf, hrs⟩ := hr
              simp [go_sem] at hD
              go_simp
              obtain ⟨hk1, hk2, hk3, hk4⟩ := HK.out W hC
              refine (HG.out W hk1 hk2 (hk3.sl (fun _ => rfl)) (hk4.sl (fun _ => rfl))).mono ?_
              rintro e w' ⟨rfl, hE⟩
              exact ⟨_, rfl, ⟨hC.ext hE, RS.ext hE⟩, rfl⟩
            simp only [List.nil_append, List.cons_append]
            repeat
              (apply tame_q rfl
               (intro ρ W hC hr hD
                obtain ⟨hrc, hrg, hrf, hrs⟩ := hr
                simp [go_sem] at hD
                go_simp
                first | exact ⟨⟨hC, RS.refl _⟩, rfl⟩ | exact rfl)
               simp only [List.nil_append, List.cons_append])
            apply tame_n (fun _ W => Blk W (w.heap.size + 1) 82 #[.int .i64 b.id, .int .i64 b.layers, .int .i64 b.dry.lo, .int .i64 b.dry.hi, .slice A n cp, .slice A2 n2 cp2, .slice As kk cs, .slice Al (driesTo b k2).length cl]) (fun _ W W' _ hR h => hR.2 h)
            · intro ρ W hC hr hD
              obtain ⟨hrc, hrg, hrf, hrs⟩ := hr
              simp [go_sem] at hD
              obtain ⟨hg1, cs0, hB, hsz⟩ := hC
              obtain ⟨cs0⟩ := cs0
              obtain ⟨x0, x1, x2, x3, x4, x5, x6, x7, rfl⟩ : ∃ x0 x1 x2 x3 x4 x5 x6 x7, cs0 = [x0, x1, x2, x3, x4, x5, x6, x7] := by
                match cs0, hsz with
                | [x0, x1, x2, x3, x4, x5, x6, x7], _ => exact ⟨_, _, _, _, _, _, _, _, rfl⟩
              have b0 := hB.cell 0
              have b1 := hB.cell 1
              have b2 := hB.cell 2
              have b3 := hB.cell 3
              have b4 := hB.cell 4
              have b5 := hB.cell 5
              have b6 := hB.cell 6
              have b7 := hB.cell 7
              have bf := hB.frozen
              have HB := Lib.hid hB; have HG1 := Lib.hid hg1; clear hB hg1
              simp at b0 b1 b2 b3 b4 b5 b6 b7
              go_simp
              exact store8 HG1.out HB.out _ _ _ _ _ _ _ _
            simp only [List.nil_append, List.cons_append]
            repeat
              (apply tame_q rfl
               (intro ρ W hC hr hD
                obtain ⟨hrc, hrg, hrf, hrs⟩ := hr
                simp [go_sem] at hD
                go_simp
                first | exact ⟨⟨hC, RS.refl _⟩, rfl⟩ | exact rfl)
               simp only [List.nil_append, List.cons_append])
            refine tame_end 105 rfl rfl (fun ρ W hC hr hF => ?_)
            obtain ⟨hrc, hrg, hrf, hrs⟩ := hr
            have hBF : Blk W (w.heap.size + 1) 82 #[.int .i64 b.id, .int .i64 b.layers, .int .i64 b.dry.lo, .int .i64 b.dry.hi, .slice A n cp, .slice A2 n2 cp2, .slice As kk cs, .slice Al (driesTo b k2).length cl] := hF.2.2.2.2.2.2.2.2.2.1
            have HBF := Lib.hid hBF; clear hBF
            simp [go_sem] at hF
            apply frame_to
            · go_simp
              exact rfl
            clear hF hrs hrc hrg hrf
            have HC := Lib.hid hC; clear hC
            clear c0 c1 c2 c3 c4 c5 c6 c7
            go_wp2
            rw [Exit.noGoto_ret]
            have B0 := HBF.out.cell 0
            have B1 := HBF.out.cell 1
            have B2 := HBF.out.cell 2
            have B3 := HBF.out.cell 3
            have B4 := HBF.out.cell 4
            have B5 := HBF.out.cell 5
            have B6 := HBF.out.cell 6
            have B7 := HBF.out.cell 7
            simp at B0 B1 B2 B3 B4 B5 B6 B7
            refine bodyPost_ret (v := .tuple #[valP b (.slice A n cp) (.slice A2 n2 cp2) (.slice As kk cs) (.slice Al (driesTo b k2).length cl), .bool (okB b)]) (by
              have hlb : okB b = (grown (spans b) && decide (0 < (driesTo b k2).length)) := by
                unfold okB; rw [HDR.out]; cases dries b <;> simp
              rw [HGR.out] at hlb
              simp [results, Tryd.results48, go_sem, hlb, B0, B1, B2, B3, B4, B5, B6, B7]) rfl ?_
            have hkk := HK.out W HC.out
            exact OpenedPost.of rfl hkk.2.2.1 hkk.2.2.2 ⟨HC.out.1.os.trans EW2.out.os, HC.out.1.tape.trans EW2.out.tape, HC.out.1.output.trans EW2.out.output, Nat.le_trans EW2.out.size HC.out.1.size, fun k hk => (HC.out.1.block k (Nat.lt_of_lt_of_le hk EW2.out.size) (by intro h; injection h with h; omega)).trans (EW2.out.block k hk)⟩
end Go.Proofs.YtcoiahjehlplfaaDoor
/- core.asked, Can, Layer, ends, Best, Worst. -/
namespace Go.Proofs.YtcoiahjehlplfaaDoor
open Go.RowKit Go.Shelf
set_option maxRecDepth 100000

def askE (b : Bale) (r : Bool) (e : Int) : Int := if valid b then (if r then (if okB b then 0 else 8) else e) else 30
abbrev zP : Value := .agg #[.int .i64 0, .int .i64 0, .int .i64 0, .int .i64 0, .slice none 0 0, .slice none 0 0, .slice none 0 0, .slice none 0 0]
/-- What a press that is asked for holds. -/
def AskedPost (b : Bale) (dv wv : Value) (E : Int) (w : World) (e : Ending) (w' : World) : Prop :=
  ∃ pv, e = .returned (.tuple #[pv, .int .i64 E]) ∧ (E = 0 → ∃ sv lv, pv = valP b dv wv sv lv ∧ SlS w' sv (spans b) ∧ SlI w' lv (dries b)) ∧ (E ≠ 0 → pv = zP) ∧ Ext w w'
theorem AskedPost.bad {b : Bale} {dv wv : Value} {E E' : Int} {w w' : World} (hE : E' = E) (h0 : E ≠ 0) (h : Ext w w') : AskedPost b dv wv E w (.returned (.tuple #[zP, .int .i64 E'])) w' := by
  subst hE
  exact ⟨_, rfl, fun h => absurd h h0, fun _ => rfl, h⟩

theorem ret_set8 {P : Program} {fn : Func} {R : Ending → World → Prop} {ex : Exit} {a : Act} {w1 : World} {g : Nat} {t : TypeId} {x0 x1 x2 x3 x4 x5 x6 x7 y0 y1 y2 y3 y4 y5 y6 y7 : Value} (hB : Blk w1 g t #[x0, x1, x2, x3, x4, x5, x6, x7])
    (h : ∀ W, (W.cell? ⟨g, 0, none⟩ = some y0 ∧ W.cell? ⟨g, 1, none⟩ = some y1 ∧ W.cell? ⟨g, 2, none⟩ = some y2 ∧ W.cell? ⟨g, 3, none⟩ = some y3 ∧ W.cell? ⟨g, 4, none⟩ = some y4 ∧ W.cell? ⟨g, 5, none⟩ = some y5 ∧ W.cell? ⟨g, 6, none⟩ = some y6 ∧ W.cell? ⟨g, 7, none⟩ = some y7) → w1.grownBy W (some g) → bodyPost P fn R ex a W) :
    bodyPost P fn R ex a (set8 w1 g y0 y1 y2 y3 y4 y5 y6 y7) :=
  have H := hB.set8 y0 y1 y2 y3 y4 y5 y6 y7
  h _ ⟨H.cell 0, H.cell 1, H.cell 2, H.cell 3, H.cell 4, H.cell 5, H.cell 6, H.cell 7⟩ (grown_set8 (World.grownBy.refl _ _) ..)
theorem ret_set8a {P : Program} {fn : Func} {R : Ending → World → Prop} {ex : Exit} {a : Act} {w1 : World} {g : Nat} {t : TypeId} {x0 x1 x2 x3 x4 x5 x6 x7 y0 y1 y2 y3 y4 y5 y6 y7 : Value} {o : Obj} (hB : Blk w1 g t #[x0, x1, x2, x3, x4, x5, x6, x7])
    (h : ∀ W, (W.cell? ⟨g, 0, none⟩ = some y0 ∧ W.cell? ⟨g, 1, none⟩ = some y1 ∧ W.cell? ⟨g, 2, none⟩ = some y2 ∧ W.cell? ⟨g, 3, none⟩ = some y3 ∧ W.cell? ⟨g, 4, none⟩ = some y4 ∧ W.cell? ⟨g, 5, none⟩ = some y5 ∧ W.cell? ⟨g, 6, none⟩ = some y6 ∧ W.cell? ⟨g, 7, none⟩ = some y7) → w1.grownBy W (some g) → bodyPost P fn R ex a W) :
    bodyPost P fn R ex a ((set8 w1 g y0 y1 y2 y3 y4 y5 y6 y7).alloc o) :=
  have H := (hB.set8 y0 y1 y2 y3 y4 y5 y6 y7).alloc o
  h _ ⟨H.cell 0, H.cell 1, H.cell 2, H.cell 3, H.cell 4, H.cell 5, H.cell 6, H.cell 7⟩ (grown_ext (grown_set8 (World.grownBy.refl _ _) ..) (Ext.al _ _))
theorem ext_grown {w w1 W : World} {g : Nat} (h : Ext w w1) (k : w1.grownBy W (some g)) (hg : w.heap.size ≤ g) : Ext w W :=
  ⟨k.os.trans h.os, k.tape.trans h.tape, k.output.trans h.output, Nat.le_trans h.size k.size, fun i hi => (k.block i (Nat.lt_of_lt_of_le hi h.size) (by intro e; injection e with e; omega)).trans (h.block i hi)⟩
theorem neq88n (w : World) : (binOp .neq 88 .nilFunc .nilFunc).run Tryd.prog w = .ok (.bool false) w := by kernel_rfl
theorem neq88f (w : World) (g : FuncId) (x y : Array Value) : (binOp .neq 88 (.func (.func g) x y) .nilFunc).run Tryd.prog w = .ok (.bool true) w := by kernel_rfl

set_option maxHeartbeats 1000000 in
theorem asked_nil (b : Bale) (dv wv : Value) (w : World) (hT : Tab w) (hd : SlD w dv b.draws) (hw : SlW w wv b.weighs) :
    Calls Tryd.prog 51 #[valB b dv wv, .nilFunc, .int .i64 0] w (AskedPost b dv wv (askE b true 0) w) := by
  have HT := Lib.hid hT
  have HD := Lib.hid hd
  have HW := Lib.hid hw
  obtain ⟨A, n, cp, rfl, hn, hlc, hcm⟩ := hd.form
  obtain ⟨A2, n2, cp2, rfl, hn2, hlc2, hcm2⟩ := hw.form
  clear hd hw hT
  have nq := neq88n
  go_enter Tryd.func51, Tryd.ntmps51
  go_wp2_with fail
  refine (check_any b _ _ _ ((HT.out.ext (Ext.al _ _)).ext (Ext.al _ _)) ((HD.out.ext (Ext.al _ _)).ext (Ext.al _ _)) ((HW.out.ext (Ext.al _ _)).ext (Ext.al _ _))).mono ?_
  rintro e w1 ⟨rfl, hb⟩
  obtain ⟨hc, hf, hz, HE⟩ := hb.use
  cases hv : valid b with
  | false =>
    have HV := Lib.hid hv; clear hv
    go_wp2
    refine ret_set8 ((Blk.at_ (by simp)).ext HE.out) fun W ⟨b0, b1, b2, b3, b4, b5, b6, b7⟩ hW => ?_
    refine bodyPost_ret (v := .tuple #[zP, .int .i64 (errB false 30)]) (by simp [results, Tryd.results51, go_sem, b0, b1, b2, b3, b4, b5, b6, b7]) rfl ?_
    exact AskedPost.bad (by unfold askE errB; rw [HV.out]; rfl) (by unfold askE; rw [HV.out]; simp) (ext_grown (((Ext.al _ _).trans (Ext.al _ _)).trans HE.out) hW (by omega))
  | true =>
    have HV := Lib.hid hv; clear hv
    have HB := Lib.hid (valid_bds HV.out)
    have HDW := Lib.hid (show SlD w1 (.slice A n cp) b.draws ∧ SlW w1 (.slice A2 n2 cp2) b.weighs from ⟨((HD.out.ext (Ext.al _ _)).ext (Ext.al _ _)).ext HE.out, ((HW.out.ext (Ext.al _ _)).ext (Ext.al _ _)).ext HE.out⟩)
    go_wp2_with fail
    refine (opened_any b _ _ _ HDW.out.1 HDW.out.2 HB.out.l1 HB.out.l5 HB.out.lo HB.out.lh HB.out.hi (fun x hx => by have := HB.out.w x hx; omega)).mono ?_
    rintro e w2 ⟨sv, lv, rfl, h1, h2, hE2⟩
    obtain ⟨As, ns, cs, rfl, hns, hsc, hsm⟩ := (show SlS w2 sv (spans b) from h1.sl (fun _ => rfl)).form
    obtain ⟨Al, nl, cl, rfl, hnl, hlc', hlm⟩ := (show SlI w2 lv (dries b) from h2.sl (fun _ => rfl)).form
    dsimp only [valP]
    have H1 := Lib.hid h1; have H2 := Lib.hid h2; clear h1 h2
    have HE3 := Lib.hid ((((Ext.al w _).trans (Ext.al _ _)).trans HE.out).trans hE2)
    have HBk := Lib.hid ((Blk.at_ (t := 82) (cs := #[.int .i64 0, .int .i64 0, .int .i64 0, .int .i64 0, .slice none 0 0, .slice none 0 0, .slice none 0 0, .slice none 0 0]) (w := w.alloc (.cells #[.int .i64 b.id, .int .i64 b.layers, .int .i64 b.dry.lo, .int .i64 b.dry.hi, .slice A n cp, .slice A2 n2 cp2] 27)) (g := w.heap.size + 1) (by simp)).ext (HE.out.trans hE2))
    clear hE2 hc hf
    have hc0 := HBk.out.cell 0
    have hc1 := HBk.out.cell 1
    have hc2 := HBk.out.cell 2
    have hc3 := HBk.out.cell 3
    have hc4 := HBk.out.cell 4
    have hc5 := HBk.out.cell 5
    have hc6 := HBk.out.cell 6
    have hc7 := HBk.out.cell 7
    have hfr := HBk.out.frozen
    have hlt := HBk.out.lt
    simp at hc0 hc1 hc2 hc3 hc4 hc5 hc6 hc7
    cases ho : okB b with
    | false =>
      have HO := Lib.hid ho; clear ho
      go_wp2
      refine ret_set8a HBk.out fun W ⟨b0, b1, b2, b3, b4, b5, b6, b7⟩ hW => ?_
      refine bodyPost_ret (v := .tuple #[zP, .int .i64 8]) (by simp [results, Tryd.results51, go_sem, b0, b1, b2, b3, b4, b5, b6, b7]) rfl ?_
      exact AskedPost.bad (by unfold askE; rw [HV.out, HO.out]; rfl) (by unfold askE; rw [HV.out, HO.out]; simp) (ext_grown HE3.out hW (by omega))
    | true =>
      have HO := Lib.hid ho; clear ho
      go_wp2
      refine ret_set8a HBk.out fun W ⟨b0, b1, b2, b3, b4, b5, b6, b7⟩ hW => ?_
      refine bodyPost_ret (v := .tuple #[valP b (.slice A n cp) (.slice A2 n2 cp2) (.slice As ns cs) (.slice Al nl cl), .int .i64 0]) (by simp [results, Tryd.results51, go_sem, b0, b1, b2, b3, b4, b5, b6, b7]) rfl ?_
      refine ⟨_, by unfold askE; rw [HV.out, HO.out]; rfl, fun _ => ⟨_, _, rfl, ?_, ?_⟩, fun h => absurd (by unfold askE; rw [HV.out, HO.out]; rfl) h, ext_grown HE3.out hW (by omega)⟩
      · exact Sl.of_own (fun _ => rfl) (own_kept H1.out hW (by simp at hz; omega))
      · exact Sl.of_own (fun _ => rfl) (own_kept H2.out hW (by simp at hz; omega))
set_option maxHeartbeats 1000000 in
theorem asked_fn (b : Bale) (dv wv : Value) (w : World) (g : FuncId) (cap : Array Value) (eg : ∀ args w, (callFunc g args).run Tryd.prog w = .ok (.enter g args) w) (r : Bool) (E0 : Int) (hE0 : E0 ≠ 0) (hr : valid b = true → ∀ W, Ext w W → Calls Tryd.prog g cap W fun e W' => e = .returned (.bool r) ∧ Ext W W') (hT : Tab w) (hd : SlD w dv b.draws) (hw : SlW w wv b.weighs) :
    Calls Tryd.prog 51 #[valB b dv wv, .func (.func g) #[] cap, .int .i64 E0] w (AskedPost b dv wv (askE b r E0) w) := by
  have HT := Lib.hid hT
  have HD := Lib.hid hd
  have HW := Lib.hid hw
  obtain ⟨A, n, cp, rfl, hn, hlc, hcm⟩ := hd.form
  obtain ⟨A2, n2, cp2, rfl, hn2, hlc2, hcm2⟩ := hw.form
  have HR := Lib.hid hr
  clear hd hw hT hr
  have nq := neq88f
  go_enter Tryd.func51, Tryd.ntmps51
  go_wp2_with fail
  refine (check_any b _ _ _ ((HT.out.ext (Ext.al _ _)).ext (Ext.al _ _)) ((HD.out.ext (Ext.al _ _)).ext (Ext.al _ _)) ((HW.out.ext (Ext.al _ _)).ext (Ext.al _ _))).mono ?_
  rintro e w1 ⟨rfl, hb⟩
  obtain ⟨hc, hf, hz, HE⟩ := hb.use
  cases hv : valid b with
  | false =>
    have HV := Lib.hid hv; clear hv
    go_wp2
    refine ret_set8 ((Blk.at_ (by simp)).ext HE.out) fun W ⟨b0, b1, b2, b3, b4, b5, b6, b7⟩ hW => ?_
    refine bodyPost_ret (v := .tuple #[zP, .int .i64 (errB false 30)]) (by simp [results, Tryd.results51, go_sem, b0, b1, b2, b3, b4, b5, b6, b7]) rfl ?_
    exact AskedPost.bad (by unfold askE errB; rw [HV.out]; rfl) (by unfold askE; rw [HV.out]; simp) (ext_grown (((Ext.al _ _).trans (Ext.al _ _)).trans HE.out) hW (by omega))
  | true =>
    have HV := Lib.hid hv; clear hv
    have HB := Lib.hid (valid_bds HV.out)
    obtain ⟨w0, hw0⟩ : ∃ w0 : World, w0 = w1 := ⟨_, rfl⟩
    subst hw0
    have hza : w.heap.size + 1 < w0.heap.size := by simp at hz; omega
    have hzb : w.heap.size < w0.heap.size := by omega
    have hcall := HR.out HV.out w0 (((Ext.al _ _).trans (Ext.al _ _)).trans HE.out)
    cases hrr : r with
    | false =>
      rw [hrr] at hcall
      have HC := Lib.hid hcall; clear hcall
      have HRR := Lib.hid hrr; clear hrr
      go_wp2_with (go_at_fn g; refine HC.out.mono ?_; rintro e w1 ⟨rfl, hb2⟩; obtain ⟨hc2, hf2, hz2, HE2⟩ := hb2.use)
      refine ret_set8 ((Blk.at_ (by simp)).ext (HE.out.trans HE2.out)) fun W ⟨b0, b1, b2, b3, b4, b5, b6, b7⟩ hW => ?_
      refine bodyPost_ret (v := .tuple #[zP, .int .i64 E0]) (by simp [results, Tryd.results51, go_sem, b0, b1, b2, b3, b4, b5, b6, b7]) rfl ?_
      exact AskedPost.bad (by unfold askE; rw [HV.out, HRR.out]; rfl) (by unfold askE; rw [HV.out, HRR.out]; simpa using hE0) (ext_grown (((Ext.al _ _).trans (Ext.al _ _)).trans (HE.out.trans HE2.out)) hW (by omega))
    | true =>
    rw [hrr] at hcall
    have HC := Lib.hid hcall; clear hcall
    have HRR := Lib.hid hrr; clear hrr
    go_wp2_with (go_at_fn g; refine HC.out.mono ?_; rintro e w1 ⟨rfl, hb2⟩; obtain ⟨hc2, hf2, hz2, HE2⟩ := hb2.use)
    have HE1 := Lib.hid (HE.out.trans HE2.out)
    clear HE HE2
    have HE := HE1; clear HE1
    have HDW := Lib.hid (show SlD w1 (.slice A n cp) b.draws ∧ SlW w1 (.slice A2 n2 cp2) b.weighs from ⟨((HD.out.ext (Ext.al _ _)).ext (Ext.al _ _)).ext HE.out, ((HW.out.ext (Ext.al _ _)).ext (Ext.al _ _)).ext HE.out⟩)
    refine (opened_any b _ _ _ HDW.out.1 HDW.out.2 HB.out.l1 HB.out.l5 HB.out.lo HB.out.lh HB.out.hi (fun x hx => by have := HB.out.w x hx; omega)).mono ?_
    rintro e w2 ⟨sv, lv, rfl, h1, h2, hE2⟩
    obtain ⟨As, ns, cs, rfl, hns, hsc, hsm⟩ := (show SlS w2 sv (spans b) from h1.sl (fun _ => rfl)).form
    obtain ⟨Al, nl, cl, rfl, hnl, hlc', hlm⟩ := (show SlI w2 lv (dries b) from h2.sl (fun _ => rfl)).form
    dsimp only [valP]
    have H1 := Lib.hid h1; have H2 := Lib.hid h2; clear h1 h2
    have HE3 := Lib.hid ((((Ext.al w _).trans (Ext.al _ _)).trans HE.out).trans hE2)
    have HBk := Lib.hid ((Blk.at_ (t := 82) (cs := #[.int .i64 0, .int .i64 0, .int .i64 0, .int .i64 0, .slice none 0 0, .slice none 0 0, .slice none 0 0, .slice none 0 0]) (w := w.alloc (.cells #[.int .i64 b.id, .int .i64 b.layers, .int .i64 b.dry.lo, .int .i64 b.dry.hi, .slice A n cp, .slice A2 n2 cp2] 27)) (g := w.heap.size + 1) (by simp)).ext (HE.out.trans hE2))
    clear hE2 hc hf hc2 hf2
    have hc0 := HBk.out.cell 0
    have hc1 := HBk.out.cell 1
    have hc2 := HBk.out.cell 2
    have hc3 := HBk.out.cell 3
    have hc4 := HBk.out.cell 4
    have hc5 := HBk.out.cell 5
    have hc6 := HBk.out.cell 6
    have hc7 := HBk.out.cell 7
    have hfr := HBk.out.frozen
    have hlt := HBk.out.lt
    simp at hc0 hc1 hc2 hc3 hc4 hc5 hc6 hc7
    cases ho : okB b with
    | false =>
      have HO := Lib.hid ho; clear ho
      go_wp2
      refine ret_set8a HBk.out fun W ⟨b0, b1, b2, b3, b4, b5, b6, b7⟩ hW => ?_
      refine bodyPost_ret (v := .tuple #[zP, .int .i64 8]) (by simp [results, Tryd.results51, go_sem, b0, b1, b2, b3, b4, b5, b6, b7]) rfl ?_
      exact AskedPost.bad (by unfold askE; rw [HV.out, HRR.out, HO.out]; rfl) (by unfold askE; rw [HV.out, HRR.out, HO.out]; simp) (ext_grown HE3.out hW (by omega))
    | true =>
      have HO := Lib.hid ho; clear ho
      go_wp2
      refine ret_set8a HBk.out fun W ⟨b0, b1, b2, b3, b4, b5, b6, b7⟩ hW => ?_
      refine bodyPost_ret (v := .tuple #[valP b (.slice A n cp) (.slice A2 n2 cp2) (.slice As ns cs) (.slice Al nl cl), .int .i64 0]) (by simp [results, Tryd.results51, go_sem, b0, b1, b2, b3, b4, b5, b6, b7]) rfl ?_
      refine ⟨_, by unfold askE; rw [HV.out, HRR.out, HO.out]; rfl, fun _ => ⟨_, _, rfl, ?_, ?_⟩, fun h => absurd (by unfold askE; rw [HV.out, HRR.out, HO.out]; rfl) h, ext_grown HE3.out hW (by omega)⟩
      · exact Sl.of_own (fun _ => rfl) (own_kept H1.out hW (by omega))
      · exact Sl.of_own (fun _ => rfl) (own_kept H2.out hW (by omega))
end Go.Proofs.YtcoiahjehlplfaaDoor
