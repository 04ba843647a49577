/- Equality of structs, as the program tests it; that the reference's test of a bale is the program's. -/
import Derived.Test.YtcoiahjehlplfaaDoorCoreF
namespace Go.Proofs.YtcoiahjehlplfaaDoor
open Go.RowKit Go.Shelf
set_option maxRecDepth 100000

theorem und23 : Tryd.prog.underlying 23 = some (.struct (Tryd.prog.fieldsOf 23)) := by kernel_rfl
theorem und63 : Tryd.prog.underlying 63 = some (.struct (Tryd.prog.fieldsOf 63)) := by kernel_rfl
theorem und65 : Tryd.prog.underlying 65 = some (.struct (Tryd.prog.fieldsOf 65)) := by kernel_rfl
theorem held23 : Tryd.prog.stoodInHeld 23 = false := by kernel_rfl
theorem held63 : Tryd.prog.stoodInHeld 63 = false := by kernel_rfl
theorem held65 : Tryd.prog.stoodInHeld 65 = false := by kernel_rfl
theorem guard23 : Tryd.prog.eqGuardType Tryd.prog.depth 23 = false := by kernel_rfl
theorem guard63 : Tryd.prog.eqGuardType Tryd.prog.depth 63 = false := by kernel_rfl
theorem guard65 : Tryd.prog.eqGuardType Tryd.prog.depth 65 = false := by kernel_rfl

theorem eqin23 (d : Nat) (a b a' b' : Int) (w : World) : (Op.equalIn (d + 2) 23 (.agg #[.int .i64 a, .int .i64 b]) (.agg #[.int .i64 a', .int .i64 b'])).run Tryd.prog w = .ok (a == a' && b == b') w := by
  have u3 := Tryd.underlying3
  have a3 := Tryd.isAgg3
  have z3 := Tryd.sizeOf3
  rw [run_equalIn_agg w (d + 1) 23 _ _ und23 held23]
  simp only [Program.fieldsOf, Tryd.underlying23]
  go_simp
  by_cases h1 : a = a' <;> by_cases h2 : b = b' <;> simp [h1, h2]
theorem neq23 (a b a' b' : Int) (w : World) : (binOp .neq 23 (.agg #[.int .i64 a, .int .i64 b]) (.agg #[.int .i64 a', .int .i64 b'])).run Tryd.prog w = .ok (.bool (!(a == a' && b == b'))) w := by
  rw [run_neq_struct, show (10000 : Nat) = 9998 + 2 from rfl, eqin23]; rfl
theorem eqin63 (d : Nat) (n l a b n' l' a' b' : Int) (w : World) : (Op.equalIn (d + 3) 63 (.agg #[.int .i64 n, .int .i64 l, .int .i64 a, .int .i64 b]) (.agg #[.int .i64 n', .int .i64 l', .int .i64 a', .int .i64 b'])).run Tryd.prog w = .ok (n == n' && (l == l' && (a == a' && b == b'))) w := by
  have u3 := Tryd.underlying3
  have a3 := Tryd.isAgg3
  have z3 := Tryd.sizeOf3
  have a23 := Tryd.isAgg23
  have z23 := Tryd.sizeOf23
  have e := eqin23 d
  rw [run_equalIn_agg w (d + 2) 63 _ _ und63 held63]
  simp only [Program.fieldsOf, Tryd.underlying63]
  go_simp
  by_cases h1 : a = a' <;> by_cases h2 : b = b' <;> by_cases h3 : n = n' <;> by_cases h4 : l = l' <;> simp [h1, h2, h3, h4]
theorem eqin65 (d : Nat) (n l a b n' l' a' b' : Int) (w : World) : (Op.equalIn (d + 3) 65 (.agg #[.int .i64 n, .int .i64 l, .int .i64 a, .int .i64 b]) (.agg #[.int .i64 n', .int .i64 l', .int .i64 a', .int .i64 b'])).run Tryd.prog w = .ok (n == n' && (l == l' && (a == a' && b == b'))) w := by
  have u3 := Tryd.underlying3
  have a3 := Tryd.isAgg3
  have z3 := Tryd.sizeOf3
  have a23 := Tryd.isAgg23
  have z23 := Tryd.sizeOf23
  have e := eqin23 d
  rw [run_equalIn_agg w (d + 2) 65 _ _ und65 held65]
  simp only [Program.fieldsOf, Tryd.underlying65]
  go_simp
  by_cases h1 : a = a' <;> by_cases h2 : b = b' <;> by_cases h3 : n = n' <;> by_cases h4 : l = l' <;> simp [h1, h2, h3, h4]
theorem neq63 (n l a b n' l' a' b' : Int) (w : World) : (binOp .neq 63 (.agg #[.int .i64 n, .int .i64 l, .int .i64 a, .int .i64 b]) (.agg #[.int .i64 n', .int .i64 l', .int .i64 a', .int .i64 b'])).run Tryd.prog w = .ok (.bool (!(n == n' && (l == l' && (a == a' && b == b'))))) w := by
  rw [run_neq_struct, show (10000 : Nat) = 9997 + 3 from rfl, eqin63]; rfl
theorem neq65 (n l a b n' l' a' b' : Int) (w : World) : (binOp .neq 65 (.agg #[.int .i64 n, .int .i64 l, .int .i64 a, .int .i64 b]) (.agg #[.int .i64 n', .int .i64 l', .int .i64 a', .int .i64 b'])).run Tryd.prog w = .ok (.bool (!(n == n' && (l == l' && (a == a' && b == b'))))) w := by
  rw [run_neq_struct, show (10000 : Nat) = 9997 + 3 from rfl, eqin65]; rfl
theorem eql63l (n l a b l' : Int) (w : World) : (binOp .eql 63 (.agg #[.int .i64 n, .int .i64 l, .int .i64 a, .int .i64 b]) (.agg #[.int .i64 n, .int .i64 l', .int .i64 a, .int .i64 b])).run Tryd.prog w = .ok (.bool (l == l')) w := by
  rw [run_eql_struct, show (10000 : Nat) = 9997 + 3 from rfl, eqin63]; simp [Result.andThen]

/-! The reference's validity is the program's. -/
theorem right_eq (a b L M : Int) : (inB L b a && !decide (M < b)) = rightB a b L M := by
  unfold rightB inB
  rw [Bool.eq_iff_iff]
  simp
  omega
theorem refDs_eq (layers : Int) : ∀ (last : Int) (l : List Draw), refDs layers last l = (risingB last (l.map (·.number)) && !l.any (badD layers))
  | _, [] => rfl
  | last, x :: l => by
    rw [refDs, refDs_eq layers x.number l, List.map_cons, risingB, List.any_cons]
    unfold refD badD
    rw [show ((inB (last + 1) 9999 x.number && inB 0 (layers - 1) x.layer) && inB 1 x.grade.hi x.grade.lo && !decide (9 < x.grade.hi)) = ((inB (last + 1) 9999 x.number && inB 0 (layers - 1) x.layer) && (inB 1 x.grade.hi x.grade.lo && !decide (9 < x.grade.hi))) from by rw [Bool.and_assoc], right_eq]
    cases inB (last + 1) 9999 x.number <;> cases inB 0 (layers - 1) x.layer <;> cases rightB x.grade.lo x.grade.hi 1 9 <;> simp
theorem refWs_eq : ∀ (last : Int) (l : List Weigh), refWs last l = (risingB last (l.map (·.number)) && !l.any badW)
  | _, [] => rfl
  | last, x :: l => by
    rw [refWs, refWs_eq x.number l, List.map_cons, risingB, List.any_cons]
    unfold refW badW
    rw [show ((inB (last + 1) 9999 x.number && inB 1 1200 x.pounds) && inB 0 x.damp.hi x.damp.lo && !decide (200 < x.damp.hi)) = ((inB (last + 1) 9999 x.number && inB 1 1200 x.pounds) && (inB 0 x.damp.hi x.damp.lo && !decide (200 < x.damp.hi))) from by rw [Bool.and_assoc], right_eq]
    cases inB (last + 1) 9999 x.number <;> cases inB 1 1200 x.pounds <;> cases rightB x.damp.lo x.damp.hi 0 200 <;> simp
theorem not_lt_le (a b : Int) : (!decide (a < b)) = decide (b ≤ a) := by rw [Bool.eq_iff_iff]; simp
theorem refValid_eq (b : Bale) : refValid b = valid b := by
  unfold refValid refHead valid chk1 chk2
  rw [refDs_eq, refWs_eq, ← right_eq b.dry.lo b.dry.hi 1 600, not_lt_le, not_lt_le 10, not_lt_le 8]
  cases inB 1 9999 b.id <;> cases inB 1 5 b.layers <;> cases inB 1 b.dry.hi b.dry.lo <;> cases decide (b.dry.hi ≤ 600) <;> cases decide ((b.draws.length : Int) ≤ 10) <;> cases decide ((b.weighs.length : Int) ≤ 8) <;> cases risingB 0 (b.draws.map (·.number)) <;> cases risingB 0 (b.weighs.map (·.number)) <;> cases b.draws.any (badD b.layers) <;> cases b.weighs.any badW <;> rfl
theorem refBale_v (b : Bale) (dv wv : Value) (w : World) (hd : SlD w dv b.draws) (hw : SlW w wv b.weighs) :
    Calls Tryd.prog 49 #[valB b dv wv] w fun e w' => e = .returned (.bool (valid b)) ∧ Ext w w' := refValid_eq b ▸ refBale_any b dv wv w hd hw
theorem refCheck_v (b : Bale) (dv wv : Value) (w : World) (hd : SlD w dv b.draws) (hw : SlW w wv b.weighs) :
    Calls Tryd.prog 14 #[valB b dv wv] w fun e w' => e = .returned (.int .i64 (errB (valid b) 30)) ∧ Ext w w' := refValid_eq b ▸ refCheck_any b dv wv w hd hw
end Go.Proofs.YtcoiahjehlplfaaDoor
