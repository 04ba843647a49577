/- A map whose keys are five numbers each, as a function from lists. -/
import Derived.Test.YtfhmfbhpehldpaaGreatDoorPkMoreOI
import Derived.DeepKeys4
import Derived.Maps.Views
import Derived.Test.YtfhmfbhpehldpaaGreatDoorPkMoreOM
import Derived.Test.YtfhmfbhpehldpaaGreatDoorPkMoreOL
import Derived.Test.YtfhmfbhpehldpaaGreatDoorPkMoreOD
import Derived.Test.YtfhmfbhpehldpaaGreatDoorPkMoreOK
namespace Go.Proofs.YtfhmfbhpehldpaaGreatDoor
open Go.RowKit Go.Shelf
set_option maxRecDepth 100000
set_option linter.unusedSimpArgs false

theorem mg_laid : laidOutB Tryz.prog = true := by kernel_rfl
theorem mg_row : (82 : TypeId) < Tryz.prog.types.size := of_decide_eq_true (by kernel_rfl)
theorem mg_wide : (match Tryz.prog.underlying 82 with | some (.array _ _) | some (.struct _) => true | _ => false) = true := by rw [Tryz.underlying82]
theorem mg_law : Maps.Keyed Tryz.prog 82 := Maps.Keyed.of_law (deep_law_laid mg_laid (m := 2) (by omega) mg_row (by kernel_rfl) mg_wide)
theorem mg_key : Tryz.prog.keyType 82 = true := by kernel_rfl
theorem mg_cells : Tryz.prog.cellsOf 82 = 5 := by kernel_rfl
theorem mg_cell : Tryz.prog.cellsOf 3 = 1 := by kernel_rfl
theorem mg_types : ∃ n, Tryz.prog.types.size + 1 = n + 2 := ⟨Tryz.prog.types.size - 1, by have h : 0 < Tryz.prog.types.size := Nat.lt_of_le_of_lt (Nat.zero_le _) mg_row; omega⟩

def agg5 (l : List Int) : Value := .agg (l.map (Value.int .i64)).toArray
def K5 (l : List Int) : Prop := l.length = 5 ∧ ∀ n ∈ l, 0 ≤ n ∧ n ≤ 9
theorem agg5_inj {l l' : List Int} (h : agg5 l = agg5 l') : l = l' := by
  unfold agg5 at h
  injection h with h
  have h2 := congrArg Array.toList h
  simp only at h2
  exact (List.map_inj_right (fun a b e => by injection e)).1 h2
theorem small_wf {n : Int} (h : 0 ≤ n ∧ n ≤ 9) : (Lit.int .i64 n).wf = true := by
  have : n = 0 ∨ n = 1 ∨ n = 2 ∨ n = 3 ∨ n = 4 ∨ n = 5 ∨ n = 6 ∨ n = 7 ∨ n = 8 ∨ n = 9 := by omega
  rcases this with rfl | rfl | rfl | rfl | rfl | rfl | rfl | rfl | rfl | rfl <;> decide
theorem lits_one (n : Nat) {a : Int} (h : (Lit.int .i64 a).wf = true) : Tryz.prog.keyLits (n + 1) 3 [.int .i64 a] = some [.int .i64 a] := by
  unfold Program.keyLits
  rw [Tryz.underlying3]
  simp only [h, and_self, if_true]
theorem lits_five (n : Nat) {a b c d e : Int} (wa : (Lit.int .i64 a).wf = true) (wb : (Lit.int .i64 b).wf = true) (wc : (Lit.int .i64 c).wf = true) (wd : (Lit.int .i64 d).wf = true) (we : (Lit.int .i64 e).wf = true) :
    Tryz.prog.keyLits (n + 2) 82 [.int .i64 a, .int .i64 b, .int .i64 c, .int .i64 d, .int .i64 e] = some [.int .i64 a, .int .i64 b, .int .i64 c, .int .i64 d, .int .i64 e] := by
  unfold Program.keyLits
  rw [Tryz.underlying82]
  have hr : List.range 5 = [0, 1, 2, 3, 4] := by decide
  simp only [mg_cells, mg_cell, List.length_cons, List.length_nil, Nat.zero_add, Nat.reduceAdd, if_true, hr, List.mapM_cons, List.mapM_nil, Nat.mul_one, List.drop_zero, List.drop_succ_cons, List.take_succ_cons, List.take_zero, lits_one n wa, lits_one n wb, lits_one n wc, lits_one n wd, lits_one n we, Option.bind_eq_bind, Option.bind_some, Option.pure_def, Option.map_some, List.flatten_cons, List.flatten_nil, List.cons_append, List.nil_append]
theorem key_some {l : List Int} (h : K5 l) : ∃ kl, keyOf Tryz.prog 82 (agg5 l) = some kl := by
  obtain ⟨hl, hb⟩ := h
  match l, hl with
  | [a, b, c, d, e], _ =>
    obtain ⟨n, hn⟩ := mg_types
    have wa := small_wf (hb a (by simp))
    have wb := small_wf (hb b (by simp))
    have wc := small_wf (hb c (by simp))
    have wd := small_wf (hb d (by simp))
    have we := small_wf (hb e (by simp))
    refine ⟨.string (keyBytes [.int .i64 a, .int .i64 b, .int .i64 c, .int .i64 d, .int .i64 e]), ?_⟩
    have hf : (agg5 [a, b, c, d, e]).formed Tryz.prog 82 = true := by
      unfold agg5 Value.formed
      simp only [Tryz.underlying82, mg_cells]
      rfl
    unfold keyOf
    rw [Tryz.underlying82]
    simp only [mg_key, hf, Bool.and_self, if_true, hn]
    show (Program.keyLits Tryz.prog (n + 2) 82 [.int .i64 a, .int .i64 b, .int .i64 c, .int .i64 d, .int .i64 e]).map _ = _
    rw [lits_five n wa wb wc wd we]
    rfl

def MapG (W : World) (m n : Nat) (g : List Int → Option Int) : Prop :=
  ∃ D : DataW Unit, W.ownsMap Tryz.prog 82 (plainElem Tryz.prog 3) m n D ∧ ∀ l, K5 l → ∀ kl, keyOf Tryz.prog 82 (agg5 l) = some kl → Maps.has D kl = (g l).isSome ∧ ∀ v, g l = some v → ∀ z, D.atKey kl z = .lit (.int .i64 v)
theorem MapG.made (w : World) : MapG (w.alloc (.map #[] 0)) w.heap.size 0 (fun _ => none) :=
  ⟨.map [], World.ownsMap_made w _ _ _, fun l _ kl _ => ⟨rfl, fun v h => by cases h⟩⟩
theorem MapG.lt {W : World} {m n : Nat} {g : List Int → Option Int} (h : MapG W m n g) : m < W.heap.size := by
  obtain ⟨D, h, _⟩ := h
  exact World.ownsMap.lt h
theorem MapG.at_ {W W' : World} {m n : Nat} {g : List Int → Option Int} (h : MapG W m n g) (e : W'.heap[m]? = W.heap[m]?) : MapG W' m n g := by
  obtain ⟨D, ⟨es, clock, hb, F, hs, hD⟩, hg⟩ := h
  exact ⟨D, ⟨es, clock, e.trans hb, F, hs, hD⟩, hg⟩
theorem MapG.ext {W W' : World} {m n : Nat} {g : List Int → Option Int} (h : MapG W m n g) (e : Ext W W') : MapG W' m n g := h.at_ (e.block m h.lt)
theorem MapG.noCells {W : World} {m n : Nat} {g : List Int → Option Int} (h : MapG W m n g) : ¬ ∃ c t f, W.heap[m]? = some (.cells c t f) := by
  obtain ⟨D, ⟨es, clock, hb, _⟩, _⟩ := h
  rintro ⟨c, t, f, h⟩
  rw [hb] at h
  cases h
theorem MapG.store {W : World} {m n : Nat} {g : List Int → Option Int} (h : MapG W m n g) {l : List Int} (hl : K5 l) (hn : n < 100000000) {v : Int} (hv : 0 ≤ v ∧ v ≤ 9) :
    ∃ W', (Instr.mapUpdate 113 (.map (some m)) (agg5 l) (.int .i64 v)).run Tryz.prog W = .ok () W' ∧ MapG W' m (n + 1) (fun x => if x = l then some v else g x) ∧ W.grownBy W' (some m) := by
  obtain ⟨D, ho, hg⟩ := h
  obtain ⟨kl, hk⟩ := key_some hl
  obtain ⟨W', hr, ho', ht⟩ := ho.store mg_law Tryz.underlying113 (by unfold maxLen; omega) hk (plainElem_int Tryz.underlying3 (small_wf hv))
  refine ⟨W', hr, ⟨_, ho', fun x hx kx hkx => ?_⟩, ht.grown⟩
  have hkey := mg_law.key hk
  by_cases hxl : x = l
  · subst hxl
    rw [hk] at hkx
    injection hkx with hkx
    subst hkx
    refine ⟨by rw [Maps.has_put_same ho.isMap hkey]; simp, fun u hu z => ?_⟩
    simp at hu
    subst hu
    exact Maps.atKey_put_same ho.isMap hkey _ _
  · have hne : kx ≠ kl := fun e => hxl (agg5_inj (mg_law.inj hkx (e ▸ hk)))
    obtain ⟨h1, h2⟩ := hg x hx kx hkx
    refine ⟨by rw [Maps.has_put_other hne, h1]; simp [hxl], fun u hu z => ?_⟩
    simp only [hxl, if_false] at hu
    rw [Maps.atKey_put_other hne]
    exact h2 u hu z
theorem MapG.look {W : World} {m n : Nat} {g : List Int → Option Int} (h : MapG W m n g) {l : List Int} (hl : K5 l) :
    ∃ v : Int, (Instr.lookup 113 (.map (some m)) (agg5 l) true).run Tryz.prog W = .ok (.tuple #[.int .i64 v, .bool (g l).isSome]) W ∧ ∀ u, g l = some u → v = u := by
  obtain ⟨D, ho, hg⟩ := h
  obtain ⟨kl, hk⟩ := key_some hl
  obtain ⟨h1, h2⟩ := hg l hl kl hk
  obtain ⟨v, ps, hr, hv⟩ := ho.look_ok mg_law Tryz.underlying113 (Tryz.zeroValue3 W) (plainElem_int Tryz.underlying3 (by decide)) hk
  obtain ⟨c, rfl, hc, _⟩ := plainElem_int_inv Tryz.underlying3 hv
  rw [h1] at hr
  refine ⟨c, hr, fun u hu => ?_⟩
  have := h2 u hu (.lit (.int .i64 0))
  simp only [Prod.mk.injEq] at hc
  rw [this] at hc
  injection hc.1 with hc
  injection hc with _ hc
  exact hc.symm
end Go.Proofs.YtfhmfbhpehldpaaGreatDoor
/- core's decides: whether the draws of some layers decide. -/
namespace Go.Proofs.YtfhmfbhpehldpaaGreatDoor
open Go.RowKit Go.Shelf Go.Lib
set_option maxRecDepth 100000
set_option linter.unusedSimpArgs false
attribute [local go_sem] Oper.semAt_some

/-- What the map holds when some truths are looked at. -/
def gOf (l : List Int) (pre : List (List Int)) : List Int → Option Int := pre.foldl (fun g t => fun x => if x = restr l t then some (kindL t) else g x) (fun _ => none)
theorem gOf_snoc (l : List Int) (pre : List (List Int)) (t : List Int) : gOf l (pre ++ [t]) = fun x => if x = restr l t then some (kindL t) else gOf l pre x := by unfold gOf; rw [List.foldl_append]; rfl
theorem gOf_some (l : List Int) (pre : List (List Int)) : ∀ k v, gOf l pre k = some v → ∃ t ∈ pre, restr l t = k ∧ kindL t = v := by
  refine rev_ind (p := fun pre => ∀ k v, gOf l pre k = some v → ∃ t ∈ pre, restr l t = k ∧ kindL t = v) (fun k v h => by cases h) (fun pre t ih k v h => ?_) pre
  rw [gOf_snoc] at h
  simp only at h
  split at h
  · rename_i hk
    injection h with h
    exact ⟨t, by simp, hk.symm, h⟩
  · obtain ⟨u, hu, h1⟩ := ih k v h
    exact ⟨u, List.mem_append_left _ hu, h1⟩
theorem gOf_none (l : List Int) (pre : List (List Int)) : ∀ k, gOf l pre k = none → ∀ t ∈ pre, restr l t ≠ k := by
  refine rev_ind (p := fun pre => ∀ k, gOf l pre k = none → ∀ t ∈ pre, restr l t ≠ k) (fun k _ t ht => by cases ht) (fun pre t ih k h => ?_) pre
  rw [gOf_snoc] at h
  simp only at h
  split at h
  · cases h
  · rename_i hk
    intro u hu
    rcases List.mem_append.1 hu with hu | hu
    · exact ih k h u hu
    · simp at hu; subst hu; exact fun e => hk e.symm
theorem cons_snoc {l : List Int} {pre : List (List Int)} {x : List Int} (h : consB l pre = true) (hg : ∀ v, gOf l pre (restr l x) = some v → v = kindL x) : consB l (pre ++ [x]) = true := by
  rw [consB_iff] at h ⊢
  have key : ∀ t ∈ pre, restr l t = restr l x → kindL t = kindL x := by
    intro t ht e
    cases hx : gOf l pre (restr l x) with
    | none => exact absurd e (gOf_none l pre _ hx t ht)
    | some v =>
      obtain ⟨u, hu, h1, h2⟩ := gOf_some l pre _ v hx
      rw [← hg v hx, ← h2]
      exact h t ht u hu (e.trans h1.symm)
  intro t ht u hu e
  rcases List.mem_append.1 ht with ht | ht <;> rcases List.mem_append.1 hu with hu | hu
  · exact h t ht u hu e
  · rw [List.mem_singleton] at hu; rw [hu] at e ⊢; exact key t ht e
  · rw [List.mem_singleton] at ht; rw [ht] at e ⊢; exact (key u hu e.symm).symm
  · simp at ht hu; rw [ht, hu]
theorem cons_fail {l : List Int} {pre : List (List Int)} {x : List Int} {v : Int} (hg : gOf l pre (restr l x) = some v) (hv : v ≠ kindL x) : consB l (pre ++ [x]) = false := by
  cases hc : consB l (pre ++ [x]) with
  | false => rfl
  | true =>
    rw [consB_iff] at hc
    obtain ⟨u, hu, h1, h2⟩ := gOf_some l pre _ v hg
    exact absurd (h2.symm.trans (hc u (List.mem_append_left _ hu) x (by simp) h1)) hv
theorem cons_pre {l : List Int} {pre T : List (List Int)} (h : pre <+: T) (hc : consB l pre = false) : consB l T = false := by
  cases hT : consB l T with
  | false => rfl
  | true =>
    rw [consB_iff] at hT
    obtain ⟨q, rfl⟩ := h
    have : consB l pre = true := (consB_iff l pre).2 fun t ht u hu e => hT t (List.mem_append_left _ ht) u (List.mem_append_left _ hu) e
    rw [this] at hc
    cases hc
theorem Keep.mapG {n₀ m n : Nat} {X : Nat → Prop} {A B : World} {g : List Int → Option Int} (hg : A.grownBy B (some m)) (hm : MapG A m n g) (hn : n₀ ≤ m) (hz : n₀ ≤ A.heap.size) : Keep n₀ X A B :=
  ⟨(Below.refl n₀ A).grown hg hz (fun k e => by injection e with e; omega), fun k hk _ hc => hg.block k hk (by intro e; injection e with e; subst e; exact hm.noCells hc)⟩
theorem restr_k5 {l x : List Int} (h : ∀ n ∈ x, 1 ≤ n ∧ n ≤ 9) : K5 (restr l x) := by
  refine ⟨restr_len l x, ?_⟩
  have key : ∀ (l s : List Int), (∀ n ∈ s, 0 ≤ n ∧ n ≤ 9) → ∀ n ∈ l.foldl (fun s i => s.set i.toNat (x[i.toNat]?.getD 0)) s, 0 ≤ n ∧ n ≤ 9 := by
    intro l
    induction l with
    | nil => intro s hs; exact hs
    | cons i l ih =>
      intro s hs
      rw [List.foldl_cons]
      refine ih _ fun n hn => ?_
      rcases List.mem_or_eq_of_mem_set hn with hn | rfl
      · exact hs n hn
      · cases e : x[i.toNat]? with
        | none => simp
        | some y => have := h y (List.mem_of_getElem? e); simp; omega
  exact key l _ (by simp)
theorem restr_snoc (l x : List Int) (i : Int) : restr (l ++ [i]) x = (restr l x).set i.toNat (x[i.toNat]?.getD 0) := by unfold restr; rw [List.foldl_append]; rfl
theorem truthsL_len {z : List (Span × Int)} (h : ∀ y ∈ z, 1 ≤ y.1.lo ∧ y.1.hi ≤ 9) : (truthsL z).length ≤ 9 ^ z.length := by
  induction z with
  | nil => simp [truthsL]
  | cons y z ih =>
    have hy := h y (List.mem_cons_self ..)
    have ih := ih fun y' hy' => h y' (List.mem_cons_of_mem _ hy')
    have hg : (gradesOf y.1 y.2).length ≤ 9 := by
      unfold gradesOf gTo
      refine Nat.le_trans (List.length_filter_le _ _) ?_
      rw [List.length_map, List.length_range]
      omega
    unfold truthsL
    rw [List.length_flatMap]
    have hm : ((gradesOf y.1 y.2).map fun n => ((truthsL z).map (n :: ·)).length).sum ≤ (gradesOf y.1 y.2).length * 9 ^ z.length := by
      generalize gradesOf y.1 y.2 = g
      clear hg
      induction g with
      | nil => simp
      | cons n g ih2 => simp only [List.map_cons, List.sum_cons, List.length_cons, List.length_map] at *; rw [Nat.add_mul]; omega
    refine Nat.le_trans hm ?_
    rw [List.length_cons, Nat.pow_succ, Nat.mul_comm]
    exact Nat.mul_le_mul_left _ hg

set_option maxHeartbeats 2000000 in
theorem decides_any (b : Bale) (dv wv lv : Value) (bb off cs : Nat) (sp : List Span) (l : List Int) (A : Option Addr) (n c : Nat) (w : World) (hsp : sp.length ≤ 5) (hsp0 : 0 < sp.length) (hbd : ∀ x ∈ sp, 1 ≤ x.lo ∧ x.lo ≤ 9 ∧ 1 ≤ x.hi ∧ x.hi ≤ 9)
    (hs : SlS w (.slice (some ⟨bb, off, none⟩) sp.length cs) sp) (hl : SlI w (.slice A n c) l) (hb : ∀ i ∈ l, 0 ≤ i ∧ i < (sp.length : Int)) :
    Calls Tryz.prog 59 #[valP b dv wv (.slice (some ⟨bb, off, none⟩) sp.length cs) lv, .slice A n c] w fun e w' => e = .returned (.bool (consB l (truthsL (sp.zip [0, 0, 0, 0, 0])))) ∧ Ext w w' := by
  obtain ⟨wA, hwA⟩ : ∃ wA : World, wA = ((w.alloc (.cells #[.int .i64 b.id, .int .i64 b.layers, .int .i64 b.dry.lo, .int .i64 b.dry.hi, dv, wv, .slice (some ⟨bb, off, none⟩) sp.length cs, lv] 73)).alloc (.cells #[.slice A n c] 55)).alloc (.cells #[.bool false] 4) := ⟨_, rfl⟩
  have hzA : wA.heap.size = w.heap.size + 3 := by rw [hwA]; simp
  have EA : Ext w wA := by rw [hwA]; exact ((Ext.al _ _).alloc _).alloc _
  have HBP := Lib.hid (show Blk wA w.heap.size 73 #[.int .i64 b.id, .int .i64 b.layers, .int .i64 b.dry.lo, .int .i64 b.dry.hi, dv, wv, .slice (some ⟨bb, off, none⟩) sp.length cs, lv] by rw [hwA]; exact ((Blk.new _ _ _).alloc _).alloc _)
  have HBL := Lib.hid (show Blk wA (w.heap.size + 1) 55 #[.slice A n c] by rw [hwA]; exact (Blk.at_ (by simp)).alloc _)
  have HBR := Lib.hid (show Blk wA (w.heap.size + 1 + 1) 4 #[.bool false] by rw [hwA]; exact Blk.at_ (by simp))
  obtain ⟨WM, hWM⟩ : ∃ WM : World, WM = wA.alloc (.map #[] 0) := ⟨_, rfl⟩
  have r0 : Sem.run Tryz.prog (Instr.makeMap 113 .none) wA = .ok (.map (some (w.heap.size + 3))) WM := by rw [run_makeMap, hzA, hWM]
  have EM : Ext wA WM := by rw [hWM]; exact Ext.al _ _
  have HM := Lib.hid (show MapG WM (w.heap.size + 3) 0 (fun _ => none) by have := MapG.made wA; rw [hWM, ← hzA]; exact this)
  have hzM : WM.heap.size = w.heap.size + 4 := by rw [hWM]; simp [hzA]
  rw [hwA] at r0
  have HEA := Lib.hid (EA.trans EM)
  have hBP := Lib.hid (HBP.out.ext EM)
  have hBL := Lib.hid (HBL.out.ext EM)
  have hBR := Lib.hid (HBR.out.ext EM)
  have p0 := hBP.out.cell 0
  have p1 := hBP.out.cell 1
  have p2 := hBP.out.cell 2
  have p3 := hBP.out.cell 3
  have p4 := hBP.out.cell 4
  have p5 := hBP.out.cell 5
  have p6 := hBP.out.cell 6
  have p7 := hBP.out.cell 7
  have pl := hBP.out.lt
  simp at p0 p1 p2 p3 p4 p5 p6 p7
  have HS := Lib.hid hs; have HL := Lib.hid hl; have HBD := Lib.hid hbd; have HB := Lib.hid hb; have HZM := Lib.hid hzM
  have HS5 := Lib.hid hsp; have HS0 := Lib.hid hsp0
  clear hs hl hbd hb EA EM HBP HBL HBR hwA hWM hzA hzM hsp hsp0
  refine calls_of_wp_marks Tryz.func59 rfl ?_
  simp only [Tryz.ntmps59, List.size_toArray, List.length_cons, List.length_nil, Nat.reduceAdd, Nat.reduceSub, Array.replicate_succ, Array.replicate_zero, List.push_toArray, List.append_toArray, List.nil_append, List.cons_append]
  dsimp only [valP]
  go_wp2_with fail
  refine (truths_any b _ _ _ _ _ _ _ _ _ _).mono ?_
  rintro e w6 ⟨rfl, hw6⟩
  have HW6 := Lib.hid hw6; clear hw6
  go_wp2_with fail
  have hw6 := HW6.out
  have hE6 : Ext (WM.alloc (.cells #[.map (some (w.heap.size + 3))] 113)) w6 := by rw [hw6]; exact (Ext.al _ _).alloc _
  have E16 : Ext WM w6 := (Ext.al _ _).trans hE6
  have hz6 : w6.heap.size = WM.heap.size + 3 := by rw [hw6]; simp
  have hzM := HZM.out
  have HBM := Lib.hid (show Blk w6 WM.heap.size 113 #[.map (some (w.heap.size + 3))] from (Blk.new _ _ _).ext hE6)
  have hPM : PM (WM.heap.size + 1) bb off (WM.heap.size + 1 + 1) cs sp [0, 0, 0, 0, 0] w6 := by
    have hb6 : Blk w6 (WM.heap.size + 1) 73 #[.int .i64 b.id, .int .i64 b.layers, .int .i64 b.dry.lo, .int .i64 b.dry.hi, dv, wv, .slice (some ⟨bb, off, none⟩) sp.length cs, lv] := by rw [hw6]; exact (Blk.at_ (by simp)).alloc _
    have hs6 : Blk w6 (WM.heap.size + 1 + 1) 82 #[.int .i64 0, .int .i64 0, .int .i64 0, .int .i64 0, .int .i64 0] := by rw [hw6]; exact Blk.at_ (by simp)
    refine ⟨hb6.cell 6, fun i x hx => ?_, fun i n hn => ?_⟩
    · obtain ⟨b', off', x', e1, hx', _, hc⟩ := HS.out.at_ (show i < sp.length from (List.getElem?_eq_some_iff.1 hx).1)
      injection e1 with e1
      injection e1 with e1 e2
      subst e1 e2
      rw [hx] at hx'
      injection hx' with hx'
      subst hx'
      exact SlS.cells hc (HEA.out.trans E16)
    · have := hs6.cell i
      match i, hn with
      | 0, hn => simp at hn; subst hn; exact this
      | 1, hn => simp at hn; subst hn; exact this
      | 2, hn => simp at hn; subst hn; exact this
      | 3, hn => simp at hn; subst hn; exact this
      | 4, hn => simp at hn; subst hn; exact this
  have HE6 := Lib.hid (HEA.out.trans E16)
  have HM6 := Lib.hid (HM.out.ext E16)
  have HBL6 := Lib.hid (hBL.out.ext E16)
  have HBR6 := Lib.hid (hBR.out.ext E16)
  have HZ6 := Lib.hid hz6
  have HTL := Lib.hid (show (truthsL (sp.zip [0, 0, 0, 0, 0])).length ≤ 59049 by
    have h1 := truthsL_len (z := sp.zip [0, 0, 0, 0, 0]) (fun y hy => by have := HBD.out y.1 (List.of_mem_zip hy).1; omega)
    have h2 : (sp.zip ([0, 0, 0, 0, 0] : List Int)).length ≤ 5 := by rw [List.length_zip]; have := HS5.out; simp; omega
    exact Nat.le_trans h1 (Nat.le_trans (Nat.pow_le_pow_right (by decide) h2) (by decide)))
  clear hw6 HW6 hE6 E16 p0 p1 p2 p3 p4 p5 p6 p7 pl r0 hBP hBL hBR HM
  refine wp_rangeFunc (by rfl) (enters_of Tryz.func82 (by kernel_rfl) rfl) (truths_seqs (w := w6) (X := fun _ => False) (n₀ := w.heap.size) HS5.out rfl (fun x hx => by have := HBD.out x hx; omega) (fun _ h => h.elim) id id id (by omega) hPM) (Ext.refl _) (by omega)
    (fun x v W r o h hr => sl_put h hr)
    (fun pre W => consB l pre = true ∧ MapG W (w.heap.size + 3) pre.length (gOf l pre) ∧ Blk W WM.heap.size 113 #[.map (some (w.heap.size + 3))] ∧ Blk W (w.heap.size + 1) 55 #[.slice A n c] ∧ Blk W (w.heap.size + 1 + 1) 4 #[.bool false] ∧ Below w.heap.size w W)
    (fun c pre W => c = .ret ∧ consB l pre = false ∧ Blk W (w.heap.size + 1 + 1) 4 #[.bool false] ∧ Below w.heap.size w W)
    ?_ ?_ ?_ (fun v => { tmps := #[valP b dv wv (.slice (some ⟨bb, off, none⟩) sp.length cs) lv, .slice A n c, .pointer (some ⟨w.heap.size, 0, none⟩), .pointer (some ⟨w.heap.size + 1, 0, none⟩), .pointer (some ⟨w.heap.size + 1 + 1, 0, none⟩), .pointer (some ⟨WM.heap.size, 0, none⟩), v, undef, undef, undef, undef, undef, undef,
      .map (some (w.heap.size + 3)), valP b dv wv (.slice (some ⟨bb, off, none⟩) sp.length cs) lv, .agg #[.int .i64 0, .int .i64 0, .int .i64 0, .int .i64 0, .int .i64 0], .func (.func 82) #[] #[.pointer (some ⟨WM.heap.size + 1, 0, none⟩), .pointer (some ⟨WM.heap.size + 1 + 1, 0, none⟩)], v,
      undef, undef, undef, undef, undef, undef, undef, undef, undef, undef, undef, undef, undef, undef, undef, undef, undef, undef, undef, undef, undef, undef, undef, undef, undef, undef, undef, undef, undef, undef], defers := [] }) ?_ ?_ ?_ ?_
  · rintro pre A B ⟨h1, h2, h3, h4, h5, h6⟩ hA hT
    exact ⟨h1, h2.at_ (hT.block _ (by omega) (by omega) (by omega)), h3.turn hT (by omega) (by omega), h4.turn hT (by omega) (by omega), h5.turn hT (by omega) (by omega), hT.below h6 (by omega) (by omega)⟩
  · rintro c pre A B ⟨rfl, h1, h5, h6⟩ hA hT
    exact ⟨rfl, h1, h5.turn hT (by omega) (by omega), hT.below h6 (by omega) (by omega)⟩
  · intro W hW
    exact ⟨by unfold consB; simp, HM6.out.ext hW, HBM.out.ext hW, HBL6.out.ext hW, HBR6.out.ext hW, HE6.out.trans hW⟩
  · intro m l v W K hK
    clear hz6 hzM
    gi_wp2
    exact hK
  · rintro m ll pre x v W ⟨h1, h2, h3, h4, h5, h6⟩ hv hpre hlt
    have hx : x ∈ truthsL (sp.zip [0, 0, 0, 0, 0]) := by
      obtain ⟨q, hq⟩ := hpre
      rw [← hq]; simp
    obtain ⟨hxl, hxb⟩ := truthsL_mem hx
    have hxl' : x.length = sp.length := by rw [hxl, List.length_zip]; have := HS5.out; simp; omega
    have hx9 : ∀ n ∈ x, 1 ≤ n ∧ n ≤ 9 := fun n hn => by
      obtain ⟨y, hy, h6, h7⟩ := hxb n hn
      have := HBD.out y.1 (List.of_mem_zip hy).1
      omega
    have HSM := Lib.hid (show Small x from fun n hn => by have := hx9 n hn; omega)
    have HXL := Lib.hid hxl'
    have HXB := Lib.hid hx9
    have HPL := Lib.hid (show pre.length < 100000000 by
      have h1 := hpre.length_le
      have h2 := HTL.out
      simp at h1
      omega)
    have HV := Lib.hid hv; have H1 := Lib.hid h1; have H2 := Lib.hid h2; have H3 := Lib.hid h3; have H4 := Lib.hid h4; have H5 := Lib.hid h5; have H6 := Lib.hid h6; have HLT := Lib.hid hlt; have HPR := Lib.hid hpre
    have q0 := h4.cell 0
    have ql := h4.lt
    simp at q0
    obtain ⟨Av, nv, cv, rfl, hnv, -, -⟩ := hv.form
    have hnl : n = l.length := by obtain ⟨_, _, h, _⟩ := HL.out; injection h
    have HNL := Lib.hid hnl
    clear hz6 hzM hx hxl hxb hxl' hv h1 h2 h3 h4 h5 h6 hlt hpre hx9 hPM hnl
    gi_wp2_with fail
    gi_loopw [9, 20] (fun _ s20 wr => ∃ kk : Nat, kk ≤ n ∧ s20 = .int .i64 kk ∧ Aside (Ext W wr) ∧ Aside (Blk wr W.heap.size 82 ((restr (l.take kk) x).map (Value.int .i64)).toArray)) (fun _ i _ => n - (RowKit.intOf i).toNat)
    case atStart => exact ⟨0, by omega, rfl, Ext.al _ _, Blk.new _ _ _⟩
    case round =>
      obtain ⟨kk, hkk, rfl, EX, BX⟩ := hrel
      by_cases hlt3 : kk < n
      · have hltz : (kk : Int) < (n : Int) := by omega
        obtain ⟨bl, ol, i, rfl, hi, hbl, hic⟩ := HL.out.at_ hlt3
        have c0 := SlI.cell hic (Ext.trans H6.out EX.out)
        obtain ⟨hi0, hi1⟩ := HB.out i (List.mem_of_getElem? hi)
        obtain ⟨i', rfl⟩ : ∃ i' : Nat, i = (i' : Int) := ⟨i.toNat, by omega⟩
        have hnb : (n : Int) ≤ 9223372036854775807 := by obtain ⟨_, _, h1, h2, h3, _⟩ := HL.out; injection h1 with _ h1 _; unfold maxLen at h3; omega
        have hi5 : (i' : Int) < 5 := by have := HS5.out; omega
        have hin : (i' : Int) < (nv : Int) := by have := hnv.out; have := HXL.out; omega
        obtain ⟨bx, ox, y, rfl, hy, hbx, hyc⟩ := HV.out.at_ (show i' < nv by omega)
        have c1 := SlI.cell hyc EX.out
        obtain ⟨u0, hu0⟩ : ∃ u0, (restr (l.take kk) x)[i']? = some u0 := ⟨_, List.getElem?_eq_getElem (by rw [restr_len]; omega)⟩
        have t0 : wr.cell? ⟨W.heap.size, i', none⟩ = some (.int .i64 u0) := by rw [BX.out.cell]; simp [hu0]
        have tf := BX.out.frozen
        have tl := BX.out.lt
        have HY := Lib.hid (show restr (l.take (kk + 1)) x = (restr (l.take kk) x).set i' y by
          rw [List.take_add_one, hi]
          show restr (l.take kk ++ [(i' : Int)]) x = _
          rw [restr_snoc]
          simp [hy])
        clear hi hic hy hyc hu0
        gi_wp2
        go_roundw
        case rel => exact ⟨kk + 1, by omega, by simp, EX.out.setCell (by dsimp only; omega) _, by rw [HY.out]; show Blk _ _ _ _; have := BX.out.set_ i' (.int .i64 y); simpa using this⟩
        case measure => simp [RowKit.intOf]; omega
      · have HTK := Lib.hid (show l.take kk = l from List.take_of_length_le (by have := HNL.out; omega))
        rw [HTK.out] at BX
        gi_wp2_with fail
        refine ⟨trivial, wide_depth _, ?_⟩
        refine (CallsIn.inRound ll (callsIn_wide.2 (kind_any x _ _ (HV.out.ext EX.out) (by have := HXL.out; have := HS0.out; omega) (by have := HXL.out; have := HS5.out; omega) HSM.out))).mono ?_
        rintro e W1 ⟨rfl, hE⟩
        have EW := Ext.trans EX.out hE
        have hK5 := restr_k5 (l := l) HXB.out
        have hkb := kindL_bd x
        obtain ⟨vv, rr1, hvv⟩ := (H2.out.ext EW).look hK5
        obtain ⟨W2, rr2, hm2, hg2⟩ := (H2.out.ext EW).store hK5 HPL.out (v := kindL x) (by omega)
        have BX1 := BX.out.ext hE
        have HGS := Lib.hid (gOf_snoc l pre x)
        have HCS := Lib.hid (cons_snoc (l := l) (pre := pre) (x := x) H1.out)
        have HCF := Lib.hid (fun v => cons_fail (l := l) (pre := pre) (x := x) (v := v))
        rw [← gOf_snoc] at hm2
        have h5 := hK5.1
        generalize hrs : restr l x = rs at *
        match rs, h5 with
        | [a0, a1, a2, a3, a4], _ =>
        have b0 := BX1.cell 0
        have b1 := BX1.cell 1
        have b2 := BX1.cell 2
        have b3 := BX1.cell 3
        have b4 := BX1.cell 4
        have blt := BX1.lt
        simp at b0 b1 b2 b3 b4
        have z3 : W1.cell? ⟨WM.heap.size, 0, none⟩ = some (.map (some (w.heap.size + 3))) := (H3.out.ext EW).cell 0
        have z5 := (H5.out.ext EW).cell 0
        have z5f := (H5.out.ext EW).frozen
        have z5l := (H5.out.ext EW).lt
        simp at z5
        have HEW := Lib.hid EW; have HM2 := Lib.hid hm2; have HG2 := Lib.hid hg2; have HVV := Lib.hid hvv
        have HB5 := Lib.hid (H5.out.ext EW)
        unfold agg5 at rr1 rr2
        simp only [List.map_cons, List.map_nil] at rr1 rr2
        clear EW hm2 hg2 hvv hE hK5 BX1 BX
        cases hgx : gOf l pre [a0, a1, a2, a3, a4] with
        | none =>
          rw [hgx] at rr1
          simp only [Option.isSome_none] at rr1
          gi_wp2
          have hm := (H2.out.ext HEW.out)
          have hws := H6.out.size
          have hl := HLT.out
          have hz6 := HZ6.out
          have hzM := HZM.out
          have hs1 := HEW.out.size
          have hK : Keep w.heap.size (fun _ => False) W W2 := (Keep.ext HEW.out hws).trans (Keep.mapG HG2.out hm (by omega) (by omega))
          exact ⟨hK, (HG2.out.block _ (by omega) (by intro e; injection e with e; omega)).trans (HEW.out.block _ (by omega)), (HG2.out.block _ (by omega) (by intro e; injection e with e; omega)).trans (HEW.out.block _ (by omega)),
            HCS.out (fun v hv => by rw [hgx] at hv; cases hv), by rw [List.length_append]; exact HM2.out, (H3.out.ext HEW.out).grown HG2.out (by intro e; injection e with e; omega), (H4.out.ext HEW.out).grown HG2.out (by intro e; injection e with e; omega), HB5.out.grown HG2.out (by intro e; injection e with e; omega), H6.out.trans hK.b⟩
        | some v =>
          obtain rfl := HVV.out v hgx
          rw [hgx] at rr1
          simp only [Option.isSome_some] at rr1
          by_cases hvk : vv = kindL x
          · subst hvk
            gi_wp2
            have hm := (H2.out.ext HEW.out)
            have hws := H6.out.size
            have hl := HLT.out
            have hz6 := HZ6.out
            have hzM := HZM.out
            have hs1 := HEW.out.size
            have hK : Keep w.heap.size (fun _ => False) W W2 := (Keep.ext HEW.out hws).trans (Keep.mapG HG2.out hm (by omega) (by omega))
            exact ⟨hK, (HG2.out.block _ (by omega) (by intro e; injection e with e; omega)).trans (HEW.out.block _ (by omega)), (HG2.out.block _ (by omega) (by intro e; injection e with e; omega)).trans (HEW.out.block _ (by omega)),
              HCS.out (fun v hv => by rw [hgx] at hv; injection hv with hv; exact hv.symm), by rw [List.length_append]; exact HM2.out, (H3.out.ext HEW.out).grown HG2.out (by intro e; injection e with e; omega), (H4.out.ext HEW.out).grown HG2.out (by intro e; injection e with e; omega), HB5.out.grown HG2.out (by intro e; injection e with e; omega), H6.out.trans hK.b⟩
          · have hvb : (vv != kindL x) = true := by simpa using hvk
            have HF := Lib.hid (HCF.out vv hgx hvk)
            gi_wp2
            have hws := H6.out.size
            have hl := HLT.out
            have hz6 := HZ6.out
            have hzM := HZM.out
            have hs1 := HEW.out.size
            exact ⟨(Below.heap_setCell _ _ _ _ (by dsimp only; omega)).trans (HEW.out.block _ (by omega)), (Below.heap_setCell _ _ _ _ (by dsimp only; omega)).trans (HEW.out.block _ (by omega)), rfl, HF.out, HB5.out.set_ 0 _, Below.setCell (H6.out.trans (HEW.out.mono hws)) (by dsimp only; omega) _⟩
  · rintro W ⟨h1, h2, h3, h4, h5, h6⟩ hlt hK
    have HC := Lib.hid h1
    have H5 := Lib.hid h5; have H6 := Lib.hid h6; have HKK := Lib.hid hK
    have z5 := h5.cell 0
    have z5f := h5.frozen
    have z5l := h5.lt
    simp at z5
    clear h1 h2 h3 h4 h5 h6 hK hPM
    go_wp2
    have hw := H6.out.size
    have hK' : (W.setCell ⟨w.heap.size + 1 + 1, 0, none⟩ (.bool true)).heap[w6.heap.size]? = some (.deferred (some [])) := (Below.heap_setCell _ _ _ _ (by dsimp only; omega)).trans HKK.out
    refine ⟨by simp, .inl ⟨_, _, rfl, run_takeDeferred hK', ?_⟩⟩
    have HBB := Lib.hid (show Blk ((W.setCell ⟨w.heap.size + 1 + 1, 0, none⟩ (.bool true)).putObj w6.heap.size (.deferred none)) (w.heap.size + 1 + 1) 4 #[.bool true] from (World.putObj_heap_other (by omega)).trans (H5.out.set_ 0 _))
    have u1 := HBB.out.cell 0
    simp at u1
    have hbel : Below w.heap.size w (W.setCell ⟨w.heap.size + 1 + 1, 0, none⟩ (.bool true)) := H6.out.setCell (by dsimp only; omega) _
    refine ⟨.bool true, by simp [results, Tryz.results59, go_sem, u1], ?_, ?_⟩
    · rw [HC.out]
    · exact Turn.below hbel (Turn.put0 (s := w6.heap.size) _ _) (by omega) hbel.size
  · rintro cc pre W hpre ⟨rfl, h1, h5, h6⟩ hlt hK
    have HC := Lib.hid (cons_pre hpre h1)
    have H5 := Lib.hid h5; have H6 := Lib.hid h6; have HKK := Lib.hid hK
    clear h1 h5 h6 hK hPM hpre
    go_wp2
    have hw := H6.out.size
    refine ⟨by simp, .inl ⟨_, _, rfl, run_takeDeferred HKK.out, ?_⟩⟩
    have HBB := Lib.hid (show Blk (W.putObj w6.heap.size (.deferred none)) (w.heap.size + 1 + 1) 4 #[.bool false] from (World.putObj_heap_other (by omega)).trans H5.out)
    have u1 := HBB.out.cell 0
    simp at u1
    refine ⟨.bool false, by simp [results, Tryz.results59, go_sem, u1], ?_, ?_⟩
    · rw [HC.out]
    · exact Turn.below H6.out (Turn.put0 (s := w6.heap.size) _ _) (by omega) H6.out.size
end Go.Proofs.YtfhmfbhpehldpaaGreatDoor
/- core.Decide. -/
namespace Go.Proofs.YtfhmfbhpehldpaaGreatDoor
open Go.RowKit Go.Shelf Go.Lib
set_option maxRecDepth 100000
set_option linter.unusedSimpArgs false

/-- The fewest layers whose draws decide. -/
def decS (sp : List Span) : List Int := ((listsL (ints sp.length) sp.length).find? fun l => consB l (truthsL (sp.zip [0, 0, 0, 0, 0]))).getD []
def decB (b : Bale) : List Int := if askE b true 0 = 0 then decS (spans b) else []
theorem ints_succ (j : Nat) : ints (j + 1) = ints j ++ [(j : Int)] := by unfold ints; rw [List.range_succ, List.map_append]; rfl
theorem ints_len (j : Nat) : (ints j).length = j := by simp [ints]

set_option maxHeartbeats 2000000 in
theorem decide_any (b : Bale) (dv wv : Value) (w : World) (hT : Tab w) (hd : SlD w dv b.draws) (hw : SlW w wv b.weighs) :
    Calls Tryz.prog 23 #[valB b dv wv] w fun e w' => ∃ v, e = .returned (.tuple #[v, .int .i64 (askE b true 0)]) ∧ SlI w' v (decB b) ∧ Ext w w' := by
  have HT := Lib.hid hT
  have HD := Lib.hid hd
  have HW := Lib.hid hw
  obtain ⟨A, n, cp, rfl, hn, hlc, hcm⟩ := hd.form
  obtain ⟨A2, n2, cp2, rfl, hn2, hlc2, hcm2⟩ := hw.form
  clear hd hw hT
  go_enter Tryz.func23, Tryz.ntmps23
  go_wp2_with fail
  refine (asked_nil b _ _ _ (HT.out.ext (Ext.al _ _)) (HD.out.ext (Ext.al _ _)) (HW.out.ext (Ext.al _ _))).mono ?_
  rintro e w1 ⟨pv, rfl, hpv, hpz, hE⟩
  have HEW := Lib.hid ((Ext.al w _).trans hE)
  clear hE
  by_cases hz9 : askE b true 0 = 0
  · obtain ⟨sv, lv, rfl, hs, hl⟩ := hpv hz9
    obtain ⟨h1, h3⟩ : valid b = true ∧ okB b = true := by
      unfold askE at hz9
      split at hz9
      · simp at hz9; exact ⟨by assumption, hz9⟩
      · cases hz9
    have hb5 := valid_bds h1
    obtain ⟨Al, nl, cl, rfl, hnl, hlc', hlm⟩ := hl.form
    have hln := spans_len b
    have hl0 : 0 < (spans b).length := by have := hb5.l1; omega
    have hl5 : (spans b).length ≤ 5 := by have := hb5.l5; omega
    obtain ⟨As, cs, rfl, hsc, hsm, hcx⟩ := id hs
    obtain ⟨bs, os, rfl, hbs, -⟩ := hcx hl0
    have HBD := Lib.hid (show ∀ x ∈ spans b, 1 ≤ x.lo ∧ x.lo ≤ 9 ∧ x.hi ≤ 9 ∧ 1 ≤ x.hi from fun x hx => spans_bd h1 x hx)
    have HK := Lib.hid (show decB b = decS (spans b) by unfold decB; rw [if_pos hz9])
    have HZ := Lib.hid hz9
    have HS := Lib.hid hs
    have HL5 := Lib.hid hl5; have HL0 := Lib.hid hl0
    generalize hsp : spans b = sp at *
    rw [hz9]
    dsimp only [valP]
    have HBP := Lib.hid (Blk.new w1 73 #[.int .i64 b.id, .int .i64 b.layers, .int .i64 b.dry.lo, .int .i64 b.dry.hi, .slice A n cp, .slice A2 n2 cp2, .slice (some ⟨bs, os, none⟩) sp.length cs, .slice Al nl cl])
    clear hz9 hs hl hsc hsm hcx hb5 h1 h3 hpv hpz hsp hln hl0 hl5 hbs
    go_wp2
    go_loopg [6, 7, 22] sp.length (fun gg s6 _ s22 wr => ∃ (j : Nat), j ≤ sp.length ∧ sp.length - j ≤ gg ∧ s22 = .int .i64 j ∧ Aside (Own encI 3 1 wr (w1.heap.size + 1) s6 (ints j)) ∧ Aside (Ext (w1.alloc (.cells #[.int .i64 b.id, .int .i64 b.layers, .int .i64 b.dry.lo, .int .i64 b.dry.hi, .slice A n cp, .slice A2 n2 cp2, .slice (some ⟨bs, os, none⟩) sp.length cs, .slice Al nl cl] 73)) wr))
    case atStart => exact ⟨0, by omega, by omega, rfl, Own.nil _ _, Ext.refl _⟩
    case round =>
      obtain ⟨j, hj, hgg, rfl, OV, EX⟩ := hrel
      have hl5' := HL5.out
      by_cases hjn : j < sp.length
      · have hjz : (j : Int) < (sp.length : Int) := by omega
        have HJ5 := Lib.hid (show (ints j).length < 100000000000 by rw [ints_len]; have := HL5.out; omega)
        go_wp2_with (at_builtin; refine wpList_app encI 55 3 1 _ 8 Tryz.underlying55 info3x rfl (by decide) (by decide) (fun _ => rfl) encI_one rfl (.tmp 25) (.tmp 27) rfl (w1.heap.size + 1) _ (ints j) rfl (OV.out.alloc _) wr.heap.size 1 (j : Int) rfl (cells1 (by simp [go_sem])) HJ5.out (by have := EX.out.size; simp at this ⊢; omega) ?_)
        intro g cap w' hown hg2 hbel _
        have HO := Lib.hid (show Own encI 3 1 w' (w1.heap.size + 1) (.slice (some ⟨g, 0, none⟩) ((ints j).length + 1) cap) (ints (j + 1)) by rw [ints_succ]; exact hown)
        have HE := Lib.hid (show Ext (w1.alloc (.cells #[.int .i64 b.id, .int .i64 b.layers, .int .i64 b.dry.lo, .int .i64 b.dry.hi, .slice A n cp, .slice A2 n2 cp2, .slice (some ⟨bs, os, none⟩) sp.length cs, .slice Al nl cl] 73)) w' from Below.trans (EX.out.alloc _) (by simpa using hbel))
        clear hown hg2 hbel
        go_wp2
        go_roundg (sp.length - (j + 1))
        case measure => omega
        case rel => exact ⟨j + 1, by omega, by omega, by simp, HO.out, HE.out⟩
      · have hje : j = sp.length := by omega
        subst hje
        have hsl : SlI wr u6 (ints sp.length) := Own.sl (enc := encI) (fun _ => rfl) OV.out
        obtain ⟨Av, nv, cv, rfl, hnv, -, -⟩ := hsl.form
        have hnv' : nv = sp.length := by rw [hnv.out, ints_len]
        subst hnv'
        have HBPW := Lib.hid (HBP.out.ext EX.out)
        have y0 := HBPW.out.cell 0
        have y1 := HBPW.out.cell 1
        have y2 := HBPW.out.cell 2
        have y3 := HBPW.out.cell 3
        have y4 := HBPW.out.cell 4
        have y5 := HBPW.out.cell 5
        have y6 := HBPW.out.cell 6
        have y7 := HBPW.out.cell 7
        have yl := HBPW.out.lt
        simp at y0 y1 y2 y3 y4 y5 y6 y7
        have HSL := Lib.hid hsl
        clear hsl OV hnv
        go_wp2_with fail
        refine (lists_any Av sp.length cv sp.length wr).mono ?_
        rintro e w3 ⟨rfl, hw3⟩
        have E3 : Ext wr w3 := by rw [hw3]; exact (Ext.al _ _).alloc _
        have hb0 : Blk w3 wr.heap.size 55 #[.slice Av sp.length cv] := by rw [hw3]; exact (Blk.new _ _ _).alloc _
        have hb1 : Blk w3 (wr.heap.size + 1) 3 #[.int .i64 (sp.length : Int)] := by rw [hw3]; exact Blk.at_ (by simp)
        have hsl3 := HSL.out.ext E3
        have E13 : Ext w1 w3 := ((Ext.al _ _).trans EX.out).trans E3
        have hz3 := E3.size
        have HFI := Lib.hid (first_any (gf := 85) (tf := 59) (lb := #[.pointer (some ⟨wr.heap.size, 0, none⟩), .pointer (some ⟨wr.heap.size + 1, 0, none⟩)]) (fi := #[valP b (.slice A n cp) (.slice A2 n2 cp2) (.slice (some ⟨bs, os, none⟩) sp.length cs) (.slice Al nl cl)]) (tlb := #[]) (w := w3)
          (p := fun l => consB l (truthsL (sp.zip [0, 0, 0, 0, 0]))) (enters_of Tryz.func85 (by kernel_rfl) rfl) (enters_of Tryz.func59 (by kernel_rfl) rfl)
          (lists_seqs (ba := wr.heap.size) (bm := wr.heap.size + 1) (ca := cv) (n₀ := w3.heap.size) (X := fun _ => False) (A := Av) (all := ints sp.length) (most := sp.length) (w := w3) (by rw [ints_len]; have := HL5.out; omega) (fun _ h => h.elim) id (fun _ _ _ => id) (Nat.le_refl _)
            (by rw [ints_len]; exact hb0.cell 0) (fun i x hx => by
              have hi : i < sp.length := by have := (List.getElem?_eq_some_iff.1 hx).1; rw [ints_len] at this; exact this
              obtain ⟨bb, off, y, e1, hy, hbb, hc⟩ := hsl3.at_ hi
              rw [hx] at hy
              injection hy with hy
              subst hy
              exact ⟨bb, off, e1, SlI.cell hc (Ext.refl _)⟩) (hb1.cell 0))
          (fun x hx v W hB hv => by
            obtain ⟨Ax, nx, cx, rfl, -, -, -⟩ := hv.form
            exact decides_any b (.slice A n cp) (.slice A2 n2 cp2) (.slice Al nl cl) bs os cs sp x Ax nx cx W HL5.out HL0.out (fun y hy => by have := HBD.out y hy; omega) (HS.out.ext (E13.trans hB)) hv (fun i hi => ints_mem ((lists_mem hx).1 i hi))))
        have HE3 := Lib.hid (HEW.out.trans E13)
        clear hw3 E3 hb0 hb1 hsl3 E13 hz3
        go_wp2_with fail
        refine HFI.out.mono ?_
        rintro e w4 ⟨v, rfl, hv, hE4⟩
        have HV := Lib.hid hv; have HE4 := Lib.hid (HE3.out.trans hE4)
        clear hv hE4
        go_wp2
        refine bodyPost_ret (v := .tuple #[v, .int .i64 0]) (by simp [results, Tryz.results23, go_sem]) rfl ?_
        exact ⟨v, by rw [HZ.out], by rw [HK.out]; exact HV.out, HE4.out⟩
  · have HK := Lib.hid (show decB b = [] by unfold decB; rw [if_neg hz9])
    obtain rfl := hpz hz9
    generalize hE9 : askE b true 0 = E at hz9
    have HE9 := Lib.hid hE9; clear hE9 hpv hpz
    have HE1 := Lib.hid (HEW.out.alloc (.cells #[.int .i64 0, .int .i64 0, .int .i64 0, .int .i64 0, .slice none 0 0, .slice none 0 0, .slice none 0 0, .slice none 0 0] 73))
    go_wp2
    refine bodyPost_ret (v := .tuple #[.slice none 0 0, .int .i64 E]) (by simp [results, Tryz.results23, go_sem]) rfl ?_
    exact ⟨_, by rw [HE9.out], by rw [HK.out]; exact Sl.nil _, HE1.out⟩
end Go.Proofs.YtfhmfbhpehldpaaGreatDoor
/- The plain law of CoreKind: a bale whose layers are shown. -/
namespace Go.Proofs.YtfhmfbhpehldpaaGreatDoor
open Go.RowKit Go.Shelf Go.Lib
set_option maxRecDepth 100000
set_option linter.unusedSimpArgs false

/-! Grades turned round are of the same kind. -/
theorem maxs_eq_of {l k : List Int} (h0 : 0 < l.length) (h1 : ∀ x, x ∈ l ↔ x ∈ k) : maxs l = maxs k := by
  have h0' : 0 < k.length := List.length_pos_of_mem ((h1 _).1 (maxs_mem h0))
  have a := maxs_ge _ ((h1 _).1 (maxs_mem h0))
  have b := maxs_ge _ ((h1 _).2 (maxs_mem h0'))
  omega
theorem mins_eq_of {l k : List Int} (h0 : 0 < l.length) (h1 : ∀ x, x ∈ l ↔ x ∈ k) : mins l = mins k := by
  have h0' : 0 < k.length := List.length_pos_of_mem ((h1 _).1 (mins_mem h0))
  have a := mins_le _ ((h1 _).1 (mins_mem h0))
  have b := mins_le _ ((h1 _).2 (mins_mem h0'))
  omega
theorem maxs_rev (l : List Int) : maxs l.reverse = maxs l := by
  cases l with
  | nil => rfl
  | cons x l => exact maxs_eq_of (by simp) fun y => List.mem_reverse
theorem mins_rev (l : List Int) : mins l.reverse = mins l := by
  cases l with
  | nil => rfl
  | cons x l => exact mins_eq_of (by simp) fun y => List.mem_reverse
theorem alike_rev (l : List Int) : alikeL l.reverse = alikeL l := by unfold alikeL; rw [maxs_rev, mins_rev]
theorem cutAt_rev {l : List Int} {k : Nat} (h : k < l.length) (hc : cutAt l k = true) : cutAt l.reverse (l.length - k) = true := by
  unfold cutAt at hc ⊢
  simp only [Bool.and_eq_true, decide_eq_true_eq] at hc ⊢
  refine ⟨by omega, ?_, ?_⟩
  · rw [List.take_reverse, alike_rev, show l.length - (l.length - k) = k by omega]; exact hc.2.2
  · rw [List.drop_reverse, alike_rev, show l.length - (l.length - k) = k by omega]; exact hc.2.1
theorem cutsTo_rev {l : List Int} (h : 0 < (cutsTo l l.length).length) : 0 < (cutsTo l.reverse l.reverse.length).length := by
  obtain ⟨k, hk, hc⟩ := (cutsTo_pos _).1 h
  have h1 : 1 ≤ k := by unfold cutAt at hc; simp at hc; omega
  exact (cutsTo_pos _).2 ⟨l.length - k, by rw [List.length_reverse]; omega, cutAt_rev hk hc⟩
theorem cutsL_rev (l : List Int) : (0 < (cutsL l.reverse).length) = (0 < (cutsL l).length) := by
  unfold cutsL
  rw [alike_rev]
  by_cases ha : alikeL l = true
  · rw [if_pos ha, if_pos ha]
  · rw [if_neg ha, if_neg ha]
    refine propext ⟨fun h => ?_, cutsTo_rev⟩
    have := cutsTo_rev h
    rwa [List.reverse_reverse] at this
theorem first_rev (l : List Int) : firstL l.reverse = lastL l := by
  unfold firstL lastL
  by_cases h : 0 < l.length
  · rw [List.getElem?_reverse h, show l.length - 1 - 0 = l.length - 1 by omega]
  · rw [List.getElem?_eq_none (by rw [List.length_reverse]; omega), List.getElem?_eq_none (by omega)]
theorem last_rev (l : List Int) : lastL l.reverse = firstL l := by
  have := first_rev l.reverse
  rw [List.reverse_reverse] at this
  exact this.symm
theorem inner_rev (l : List Int) : innerL l.reverse = (innerL l).reverse := by
  unfold innerL
  rw [List.length_reverse]
  by_cases h : 2 ≤ l.length
  · rw [List.drop_reverse, List.take_reverse, List.length_take]
    congr 1
    rw [show min (l.length - 1) l.length - (l.length - 2) = 1 by omega, List.drop_take]
    congr 1
  · rw [show l.length - 2 = 0 by omega, List.take_zero, List.take_zero]; rfl
theorem kindL_rev (l : List Int) : kindL l.reverse = kindL l := by
  unfold kindL worseL
  rw [alike_rev, first_rev, last_rev, inner_rev, mins_rev, maxs_rev, show ([lastL l, firstL l] : List Int) = [firstL l, lastL l].reverse from rfl, alike_rev, Int.max_comm (lastL l)]
  simp only [cutsL_rev]

/-! The bale. -/
def oneF (g : List Int) (i : Nat) : Span := ⟨(g[i]?).getD 0, (g[i]?).getD 0⟩
def bareB (n : Nat) : Bale := ⟨1, (n : Int), ⟨1, 1⟩, [], []⟩
def oneB (g : List Int) : Bale := ⟨1, (g.length : Int), ⟨1, 1⟩, layD (oneF g) g.length, []⟩
theorem one_lay (g : List Int) : oneB g = layB (bareB g.length) (oneF g) := rfl
theorem one_fit {g : List Int} (hg : Gr g) : FitS (oneF g) (bareB g.length).layers.toNat := by
  intro i hi
  have hi : i < g.length := hi
  unfold oneF
  rw [List.getElem?_eq_getElem hi]
  have := hg _ (List.getElem_mem hi)
  simp; omega
theorem one_spans {g : List Int} (hg : Gr g) : spans (oneB g) = g.map fun n => (⟨n, n⟩ : Span) := by
  rw [one_lay, lay_spans (one_fit hg)]
  apply List.ext_getElem?
  intro i
  rw [List.getElem?_map, List.getElem?_map]
  by_cases h : i < g.length
  · rw [List.getElem?_range (show i < (bareB g.length).layers.toNat from h), List.getElem?_eq_getElem h]
    unfold oneF
    rw [Option.map_some, List.getElem?_eq_getElem h]
    rfl
  · rw [List.getElem?_eq_none (by rw [List.length_range]; exact Nat.le_of_not_lt h), List.getElem?_eq_none (Nat.le_of_not_lt h)]; rfl
theorem one_valid {g : List Int} (h0 : 0 < g.length) (h5 : g.length ≤ 5) (hg : Gr g) : valid (oneB g) = true := by
  rw [one_lay]
  refine lay_valid ?_ ⟨by simp [bareB], rfl, rfl⟩ (one_fit hg)
  unfold chk1 rightB inB bareB
  simp
  omega
theorem one_ok {g : List Int} (hg : Gr g) : okB (oneB g) = true := by
  rw [one_lay]
  refine lay_ok ?_ (one_fit hg)
  unfold dries
  rw [show ((bareB g.length).dry.hi - (bareB g.length).dry.lo + 1).toNat = 1 from rfl]
  unfold driesTo bareB
  simp
theorem one_truths {g : List Int} (h5 : g.length ≤ 5) (hg : Gr g) : truthsB (oneB g) = [g] := by
  unfold truthsB; rw [one_spans hg, truths_pins h5]
theorem one_kinds {g : List Int} (h5 : g.length ≤ 5) (hg : Gr g) : kindS (oneB g) = S4.none.add (kindL g) := by
  have := one_truths h5 hg
  unfold truthsB at this
  unfold kindS
  rw [this]
  rfl
theorem kindK_one {own k : Int} (o1 : 1 ≤ own) (o4 : own ≤ 4) (h1 : 1 ≤ k) (h4 : k ≤ 4) : kindK (S4.none.add own) k = if k = own then 2 else 0 := by
  rcases four o1 o4 with rfl | rfl | rfl | rfl <;> rcases four h1 h4 with rfl | rfl | rfl | rfl <;> decide
/-- No layer need be drawn where one kind is left. -/
theorem lists_nil (all : List Int) (most : Nat) : ∃ r, listsL all most = [] :: r := by
  unfold listsL
  rw [List.range_succ_eq_map, List.flatMap_cons, show combos 0 all = [[]] by simp [combos]]
  exact ⟨_, rfl⟩
theorem dec_nil {sp : List Span} (h : consB [] (truthsL (sp.zip [0, 0, 0, 0, 0])) = true) : decS sp = [] := by
  unfold decS
  obtain ⟨r, e⟩ := lists_nil (ints sp.length) sp.length
  rw [e, List.find?_cons, h]
  rfl
theorem one_dec {g : List Int} (h0 : 0 < g.length) (h5 : g.length ≤ 5) (hg : Gr g) : decB (oneB g) = [] := by
  unfold decB
  rw [ask_ok (one_valid h0 h5 hg) (one_ok hg), if_pos rfl]
  refine dec_nil ?_
  have := one_truths h5 hg
  unfold truthsB at this
  rw [this, consB_iff]
  intro t ht u hu _
  rw [List.mem_singleton.1 ht, List.mem_singleton.1 hu]
/-- The draw that is told: the first layer with the least worst. -/
theorem ask_spec (f : Nat → Int → Int) (sp : List Span) (most : Int) (hm : ∀ j, layN f sp j < most) : ∀ n : Nat, 0 < n →
    ∃ a : Nat, a < n ∧ askTo f sp most n = ((a : Int), layN f sp a) ∧ (∀ j, j < n → layN f sp a ≤ layN f sp j) ∧ ∀ j, j < a → layN f sp a < layN f sp j
  | 0, h => absurd h (by omega)
  | 1, _ => by
    refine ⟨0, by omega, ?_, fun j hj => ?_, fun j hj => absurd hj (by omega)⟩
    · unfold askTo; rw [if_pos (by unfold askTo; exact hm 0)]
    · obtain rfl : j = 0 := by omega
      exact Int.le_refl _
  | n + 2, _ => by
    obtain ⟨a, h1, h2, h3, h4⟩ := ask_spec f sp most hm (n + 1) (by omega)
    rw [askTo, h2]
    dsimp only
    by_cases h : layN f sp (n + 1) < layN f sp a
    · rw [if_pos h]
      refine ⟨n + 1, by omega, rfl, fun j hj => ?_, fun j hj => ?_⟩
      · by_cases e : j = n + 1
        · rw [e]; exact Int.le_refl _
        · have := h3 j (by omega); omega
      · have := h3 j hj; omega
    · rw [if_neg h]
      refine ⟨a, by omega, rfl, fun j hj => ?_, h4⟩
      by_cases e : j = n + 1
      · rw [e]; omega
      · exact h3 j (by omega)
theorem num_pins {g : List Int} (h5 : g.length ≤ 5) (hg : Gr g) {j : Nat} (h : j < g.length) : numK (g.map fun n => (⟨n, n⟩ : Span)) j g[j] = 1 := by
  have hb := hg _ (List.getElem_mem h)
  have hx : (g.map fun n => (⟨n, n⟩ : Span))[j]? = some ⟨g[j], g[j]⟩ := by rw [List.getElem?_map, List.getElem?_eq_getElem h]; rfl
  have e := pin_eq (sp := g.map fun n => (⟨n, n⟩ : Span)) (by simpa using h5) hx (n := g[j]) (Int.le_refl _) (Int.le_refl _) (by omega)
  rw [show (g.map fun n => (⟨n, n⟩ : Span)).set j ⟨g[j], g[j]⟩ = g.map fun n => (⟨n, n⟩ : Span) from by
    apply List.ext_getElem?
    intro i
    rw [List.getElem?_set]
    split
    · rename_i hji
      subst hji
      rw [if_pos (by simpa using h), hx]
    · rfl, truths_pins h5] at e
  unfold numK
  rw [← e]
  have := kindL_bd g
  show (((S4.none.add (kindL g)).num : Nat) : Int) = 1
  rcases four this.1 this.2 with h | h | h | h <;> rw [h] <;> decide
theorem one_ask {g : List Int} (h0 : 0 < g.length) (h5 : g.length ≤ 5) (hg : Gr g) : askB (oneB g) = (0, 1) := by
  unfold askB
  rw [ask_ok (one_valid h0 h5 hg) (one_ok hg), if_pos rfl]
  unfold askS
  rw [one_spans hg]
  have key : ∀ j, j < g.length → layN (numK (g.map fun n => (⟨n, n⟩ : Span))) (g.map fun n => (⟨n, n⟩ : Span)) j = 1 := by
    intro j hj
    unfold layN
    rw [List.getElem?_map, List.getElem?_eq_getElem hj]
    dsimp only [Option.map_some]
    rw [show (g[j] - g[j] + 1).toNat = 1 by omega]
    unfold wst wst
    rw [show g[j] + ((0 : Nat) : Int) = g[j] by simp, num_pins h5 hg hj]
    rfl
  obtain ⟨a, h1, h2, h3, h4⟩ := ask_spec (numK (g.map fun n => (⟨n, n⟩ : Span))) (g.map fun n => (⟨n, n⟩ : Span)) 5 (fun j => by have := layN_bd (g.map fun n => (⟨n, n⟩ : Span)) j; omega) (g.map fun n => (⟨n, n⟩ : Span)).length (by simpa using h0)
  rw [h2]
  have h1 : a < g.length := by simpa using h1
  have ha : a = 0 := by
    refine Nat.eq_zero_of_not_pos fun hp => ?_
    have := h4 0 hp
    rw [key a h1, key 0 h0] at this
    omega
  subst ha
  rw [key 0 h0]
  rfl
/-- The cut that is told is one of the grades' cuts, at both of its ends. -/
theorem one_cut {g : List Int} (h0 : 0 < g.length) (h5 : g.length ≤ 5) (hg : Gr g) :
    (kindL g ≠ 2 → cutE (oneB g) = 6) ∧ (kindL g = 2 → cutE (oneB g) = 0 ∧ ∃ p q : Nat, cutB (oneB g) = ⟨(p : Int), (q : Int)⟩ ∧ 1 ≤ p ∧ p ≤ q ∧ q < g.length ∧ kindL (g.take p) = 1 ∧ kindL (g.drop q) = 1) := by
  have hv := one_valid h0 h5 hg
  have ho := one_ok hg
  have hb := kindL_bd g
  obtain ⟨q1, q2⟩ := cutE_ok hv ho
  rw [one_kinds h5 hg, kindK_one hb.1 hb.2 (by decide) (by decide)] at q2
  refine ⟨fun h => ?_, fun h => ?_⟩
  · rw [if_neg (fun e => h e.symm)] at q2
    rcases q1 with q1 | q1
    · exact absurd rfl (q2.1 q1)
    · exact q1
  · rw [if_pos h.symm] at q2
    refine ⟨q2.2 (by decide), ?_⟩
    have hh : (cutS (oneB g)).hi ≠ 0 := cut_hi.2 ⟨g, by rw [one_truths h5 hg]; exact List.mem_singleton.2 rfl, h⟩
    have hne : ∃ x, x ∈ cutsL g := List.exists_mem_of_length_pos ((kind2_iff g).1 h)
    have hal : alikeL g = false := by
      cases ha : alikeL g with
      | false => rfl
      | true => rw [kind1_iff.2 ha] at h; cases h
    have hcut : ∀ {x : Int}, x ∈ cutsL g → ∃ k : Nat, x = (k : Int) ∧ 1 ≤ k ∧ k < g.length ∧ kindL (g.take k) = 1 ∧ kindL (g.drop k) = 1 := by
      intro x hx
      obtain ⟨k, h1, h2, h3⟩ := cutsL_bd hx
      unfold cutsL at hx
      rw [hal] at hx
      obtain ⟨k', h4, h5, h6⟩ := (cutsTo_mem _).1 hx
      obtain rfl : k = k' := by omega
      unfold cutAt at h5
      simp only [Bool.and_eq_true, decide_eq_true_eq] at h5
      exact ⟨k, h3, h1, h2, kind1_iff.2 h5.2.1, kind1_iff.2 h5.2.2⟩
    unfold cutB
    rw [ask_ok hv ho, if_pos rfl, if_neg hh]
    have e : cutS (oneB g) = (cutsL g).foldl cutStep ⟨(g.length : Int), 0⟩ := by
      unfold cutS; rw [one_truths h5 hg, cutFold_flat]
      show (([g] : List (List Int)).flatMap cutsL).foldl cutStep _ = _
      rw [List.flatMap_cons, List.flatMap_nil, List.append_nil]
      rfl
    rw [e] at hh ⊢
    obtain ⟨h1, h2, h3, h4, h6⟩ := cutStep_fold (cutsL g) ⟨(g.length : Int), 0⟩
    generalize (cutsL g).foldl cutStep ⟨(g.length : Int), 0⟩ = r at *
    obtain ⟨x, hx⟩ := hne
    obtain ⟨k, rfl, k1, k2, -, -⟩ := hcut hx
    have h3x := h3 _ hx
    have hlo : r.lo ∈ cutsL g := by
      rcases h4 with h4 | h4
      · exfalso; dsimp only at h4; omega
      · exact h4
    have hhi : r.hi ∈ cutsL g := by
      rcases h6 with h6 | h6
      · exact absurd h6 hh
      · exact h6
    obtain ⟨p, e1, p1, p2, p3, -⟩ := hcut hlo
    obtain ⟨q, e2, q3, q4, -, q6⟩ := hcut hhi
    obtain ⟨lo, hi⟩ := r
    dsimp only at e1 e2 h3x
    exact ⟨p, q, by rw [e1, e2], p1, by omega, q4, p3, q6⟩
end Go.Proofs.YtfhmfbhpehldpaaGreatDoor
/- The plain law of CoreAsk: the draw that is told leaves as few kinds as any. -/
namespace Go.Proofs.YtfhmfbhpehldpaaGreatDoor
open Go.RowKit Go.Shelf Go.Lib
set_option maxRecDepth 100000
set_option linter.unusedSimpArgs false

/-- The spans of a bale, one layer pinned. -/
def ownF (b : Bale) (j : Nat) : Span := spanAt b.draws (j : Int)
def pinF (b : Bale) (i : Nat) (n : Int) (j : Nat) : Span := if j = i then ⟨n, n⟩ else ownF b j
theorem own_fit {b : Bale} (hv : valid b = true) (hg : grown (spans b) = true) : FitS (ownF b) b.layers.toNat := by
  intro i hi
  have hm := List.mem_of_getElem? (spans_get hi)
  have h1 := spans_bd hv _ hm
  have h2 := grown_at hg _ hm
  unfold ownF
  omega
theorem pin_fit {b : Bale} (hv : valid b = true) (hg : grown (spans b) = true) {i : Nat} {n : Int} (h1 : 1 ≤ n) (h9 : n ≤ 9) : FitS (pinF b i n) b.layers.toNat := by
  intro j hj
  unfold pinF
  split
  · exact ⟨h1, Int.le_refl _, h9⟩
  · exact own_fit hv hg j hj
theorem map_own (b : Bale) : (List.range b.layers.toNat).map (ownF b) = spans b := rfl
theorem map_pin (b : Bale) {i : Nat} (hi : i < b.layers.toNat) (n : Int) : (List.range b.layers.toNat).map (pinF b i n) = (spans b).set i ⟨n, n⟩ := by
  apply List.ext_getElem?
  intro j
  rw [List.getElem?_map, List.getElem?_set]
  by_cases hj : j < b.layers.toNat
  · rw [List.getElem?_range hj, Option.map_some]
    unfold pinF
    by_cases e : i = j
    · subst e; rw [if_pos rfl, if_pos rfl, if_pos (by rw [spans_len]; exact hj)]
    · rw [if_neg (fun h => e h.symm), if_neg e, spans_get hj]; rfl
  · rw [List.getElem?_eq_none (by rw [List.length_range]; omega), if_neg (by omega), List.getElem?_eq_none (by rw [spans_len]; omega)]; rfl
theorem lay_fine {b : Bale} {f : Nat → Span} (hv : valid b = true) (ho : okB b = true) (hf : FitS f b.layers.toNat) : valid (layB b f) = true ∧ okB (layB b f) = true := by
  obtain ⟨w1, w2⟩ := weighs_ok hv
  refine ⟨lay_valid w1 w2 hf, lay_ok ?_ hf⟩
  unfold okB at ho
  simp only [Bool.and_eq_true, Bool.not_eq_true'] at ho
  cases h : dries b with
  | nil => rw [h] at ho; simp at ho
  | cons => simp
theorem mayN_num (s : S4) : mayN s 4 = (s.num : Int) := by
  obtain ⟨a, b, c, d⟩ := s
  cases a <;> cases b <;> cases c <;> cases d <;> decide
theorem num_pos {T : List (List Int)} (h : T ≠ []) : 1 ≤ (kindsOf T).num := by
  obtain ⟨t, ht⟩ := List.exists_mem_of_ne_nil _ h
  obtain ⟨h1, h2, h3, h4⟩ := kindsOf_iff T
  have hb := kindL_bd t
  unfold S4.num
  rcases four hb.1 hb.2 with e | e | e | e
  · rw [h1.2 ⟨t, ht, e⟩]; simp; omega
  · rw [h2.2 ⟨t, ht, e⟩]; simp; omega
  · rw [h3.2 ⟨t, ht, e⟩]; simp; omega
  · rw [h4.2 ⟨t, ht, e⟩]; simp
/-- How many kinds a bale can be of. -/
theorem kinds_lay {b : Bale} {f : Nat → Span} (hf : FitS f b.layers.toNat) : kindS (layB b f) = kindsOf (truthsL (((List.range b.layers.toNat).map f).zip [0, 0, 0, 0, 0])) := by
  unfold kindS; rw [lay_spans hf]
theorem kinds_pin {b : Bale} (hv : valid b = true) (ho : okB b = true) {i : Nat} (hi : i < b.layers.toNat) {n : Int} (h1 : (ownF b i).lo ≤ n) (h2 : n ≤ (ownF b i).hi) : mayN (kindS (layB b (pinF b i n))) 4 = numK (spans b) i n := by
  have hfi := own_fit hv (ok_grown ho) i hi
  rw [mayN_num, kinds_lay (pin_fit hv (ok_grown ho) (by omega) (by omega)), map_pin b hi]
  unfold numK
  rw [pin_eq (spans5 hv).1 (spans_get hi) h1 h2 (by omega)]
theorem numK_pos {b : Bale} (hv : valid b = true) (ho : okB b = true) {i : Nat} (hi : i < b.layers.toNat) {n : Int} (h1 : (ownF b i).lo ≤ n) (h2 : n ≤ (ownF b i).hi) : 1 ≤ numK (spans b) i n := by
  have hfi := own_fit hv (ok_grown ho) i hi
  unfold numK
  rw [← pin_eq (spans5 hv).1 (spans_get hi) h1 h2 (by omega)]
  have hl := (spans5 hv).1
  have := num_pos (truths_ne (sp := (spans b).set i ⟨n, n⟩) (by rw [List.length_set]; exact hl) (fun x hx => by
    rcases List.mem_or_eq_of_mem_set hx with hx | rfl
    · exact grown_at (ok_grown ho) x hx
    · exact Int.le_refl _))
  omega
theorem wst_ge (f : Int → Int) (lo : Int) : ∀ (k i : Nat), i < k → f (lo + (i : Int)) ≤ wst f lo k
  | 0, i, h => absurd h (by omega)
  | k + 1, i, h => by
    unfold wst
    by_cases e : i = k
    · subst e; omega
    · have := wst_ge f lo k i (by omega); omega
/-- The most kinds that are left where a layer is drawn. -/
def mostN (b : Bale) (i k : Nat) : Int := wst (numK (spans b) i) (ownF b i).lo k
theorem layN_most {b : Bale} {i : Nat} (hi : i < b.layers.toNat) : layN (numK (spans b)) (spans b) i = mostN b i ((ownF b i).hi - (ownF b i).lo + 1).toNat := by
  unfold layN; rw [spans_get hi]; rfl
theorem most_bd (b : Bale) (i k : Nat) : 0 ≤ mostN b i k ∧ mostN b i k ≤ 4 := wst_bd (numK_bd (spans b) i) _ _
theorem most_succ (b : Bale) (i k : Nat) : mostN b i (k + 1) = max (mostN b i k) (numK (spans b) i ((ownF b i).lo + (k : Int))) := rfl
theorem most_ge {b : Bale} {i : Nat} {n : Int} (h1 : (ownF b i).lo ≤ n) (h2 : n ≤ (ownF b i).hi) : numK (spans b) i n ≤ mostN b i ((ownF b i).hi - (ownF b i).lo + 1).toNat := by
  have := wst_ge (numK (spans b) i) (ownF b i).lo ((ownF b i).hi - (ownF b i).lo + 1).toNat (n - (ownF b i).lo).toNat (by omega)
  rwa [show (ownF b i).lo + (((n - (ownF b i).lo).toNat : Nat) : Int) = n by omega] at this
theorem askO_law {b : Bale} (hv : valid b = true) (ho : okB b = true) : ∃ (a : Nat) (L : Int), askB b = ((a : Int), L) ∧ a < b.layers.toNat ∧ 1 ≤ L ∧ L ≤ 4 ∧
    L = mostN b a ((ownF b a).hi - (ownF b a).lo + 1).toNat ∧ ∀ i, i < b.layers.toNat → L ≤ mostN b i ((ownF b i).hi - (ownF b i).lo + 1).toNat ∧ (i < a → L < mostN b i ((ownF b i).hi - (ownF b i).lo + 1).toNat) := by
  obtain ⟨s1, s2, s3⟩ := spans5 hv
  obtain ⟨a, h1, h2, h3, h4⟩ := ask_spec (numK (spans b)) (spans b) 5 (fun j => by have := layN_bd (spans b) j; omega) (spans b).length s2
  rw [s3] at h1 h3
  refine ⟨a, _, ?_, h1, ?_, ?_, layN_most h1, fun i hi => ⟨?_, fun hia => ?_⟩⟩
  · unfold askB
    rw [ask_ok hv ho, if_pos rfl]
    unfold askS
    exact h2
  · have hf := own_fit hv (ok_grown ho) a h1
    have p := numK_pos hv ho h1 (Int.le_refl _) hf.2.1
    have q := most_ge (b := b) (i := a) (Int.le_refl _) hf.2.1
    rw [layN_most h1]
    omega
  · exact layN_bd (spans b) a
  · rw [← layN_most hi]; exact h3 i hi
  · rw [← layN_most hi]; exact h4 i hia
end Go.Proofs.YtfhmfbhpehldpaaGreatDoor
/- The plain law of CoreWeight: what holds of each dry weight that can be. -/
namespace Go.Proofs.YtfhmfbhpehldpaaGreatDoor
open Go.RowKit Go.Shelf Go.Lib
set_option maxRecDepth 100000
set_option linter.unusedSimpArgs false

theorem valid_weighs {b : Bale} (h : valid b = true) : (b.weighs.map (·.number)).Pairwise (· < ·) := by
  unfold valid chk2 at h
  simp only [Bool.and_eq_true] at h
  exact (rise_lt _ _ h.2.1.2).1
theorem dries_mem {b : Bale} {d : Int} : d ∈ dries b ↔ (b.dry.lo ≤ d ∧ d ≤ b.dry.hi) ∧ ∀ x ∈ b.weighs, could d x = true := by
  unfold dries driesTo
  rw [List.mem_filter, List.mem_map, List.all_eq_true]
  constructor
  · rintro ⟨⟨i, hi, rfl⟩, h⟩
    rw [List.mem_range] at hi
    exact ⟨by omega, h⟩
  · rintro ⟨h1, h2⟩
    exact ⟨⟨(d - b.dry.lo).toNat, List.mem_range.2 (by omega), by omega⟩, h2⟩
theorem dry_first {b : Bale} (ho : okB b = true) : (dryOf (dries b)).lo ∈ dries b ∧ (dryOf (dries b)).hi ∈ dries b ∧ ∀ d ∈ dries b, (dryOf (dries b)).lo ≤ d ∧ d ≤ (dryOf (dries b)).hi := by
  have h0 := ok_pos ho
  have hs := List.pairwise_iff_getElem.1 (dries_sorted b)
  unfold dryOf
  dsimp only
  rw [List.getElem?_eq_getElem h0, List.getElem?_eq_getElem (show (dries b).length - 1 < (dries b).length by omega)]
  refine ⟨List.getElem_mem _, List.getElem_mem _, fun d hd => ?_⟩
  obtain ⟨i, hi, rfl⟩ := List.mem_iff_getElem.1 hd
  simp only [Option.getD_some]
  constructor
  · rcases Nat.eq_zero_or_pos i with e | e
    · subst e; omega
    · exact hs 0 i h0 hi e
  · by_cases e : i = (dries b).length - 1
    · subst e; omega
    · exact hs i _ hi (by omega) (by omega)
theorem dry_mid {b : Bale} (hv : valid b = true) (ho : okB b = true) {d : Int} (h1 : (dryOf (dries b)).lo ≤ d) (h2 : d ≤ (dryOf (dries b)).hi) : d ∈ dries b := by
  obtain ⟨ha, hb, -⟩ := dry_first ho
  rw [dries_mem] at ha hb ⊢
  refine ⟨by omega, fun x hx => ?_⟩
  have hB := valid_bds hv
  have hw := hB.w x hx
  have ha2 := ha.2 x hx
  have hb2 := hb.2 x hx
  unfold could inB at ha2 hb2 ⊢
  simp only [Bool.and_eq_true, decide_eq_true_eq] at ha2 hb2 ⊢
  have k1 := weight_le_d x.damp.lo h2 (by omega)
  have k2 := weight_le_d x.damp.hi h1 (by omega)
  omega
theorem dryB_ok {b : Bale} (hv : valid b = true) (ho : okB b = true) : dryB b = dryOf (dries b) := by
  unfold dryB; rw [ask_ok hv ho, if_pos rfl]
theorem damp_in {n : Int} (h0 : 0 ≤ n) (h1 : n ≤ 200) : inB 0 200 n = true := by unfold inB; simp; omega
theorem payB_ok {b : Bale} (hv : valid b = true) (ho : okB b = true) {n : Int} (h0 : 0 ≤ n) (h1 : n ≤ 200) : payB b n = ⟨weight (dryOf (dries b)).lo n, weight (dryOf (dries b)).hi n⟩ := by
  unfold payB; rw [damp_in h0 h1, ask_ok hv ho, if_pos rfl]; rfl
theorem asideB_ok {b : Bale} (hv : valid b = true) (ho : okB b = true) {n : Int} (h0 : 0 ≤ n) (h1 : n ≤ 200) : asideB b n = asideL (surelyL b n) (mayL b n) (kindS b) := by
  unfold asideB; rw [damp_in h0 h1, ask_ok hv ho, if_pos rfl]
theorem wet_at {b : Bale} (hv : valid b = true) (ho : okB b = true) {x : Weigh} (hx : x ∈ b.weighs) :
    decide (0 ≤ wIdx b x.number) = true ∧ wetB b x.number = ⟨dLo (dryOf (dries b)).hi x, dHi (dryOf (dries b)).lo x⟩ := by
  obtain ⟨i, hi⟩ := List.getElem?_of_mem hx
  have hp := List.pairwise_iff_getElem.1 (valid_weighs hv)
  have hil := (List.getElem?_eq_some_iff.1 hi).1
  have hidx : wIdx b x.number = (i : Int) := by
    unfold wIdx
    refine idxF_some _ _ i x hi (by simp) fun j y hj hy => ?_
    have hjl := (List.getElem?_eq_some_iff.1 hy).1
    have := hp j i (by simpa using hjl) (by simpa using hil) hj
    rw [List.getElem_map, List.getElem_map] at this
    rw [(List.getElem?_eq_some_iff.1 hy).2, (List.getElem?_eq_some_iff.1 hi).2] at this
    simp
    omega
  have hz : decide (0 ≤ wIdx b x.number) = true := by rw [hidx]; simp
  refine ⟨hz, ?_⟩
  unfold wetB
  rw [hz, ask_ok hv ho, if_pos rfl]
  unfold wetOf
  rw [hidx, Int.toNat_natCast, hi]
theorem wet_law {b : Bale} (hv : valid b = true) (ho : okB b = true) {x : Weigh} (hx : x ∈ b.weighs) :
    x.damp.lo ≤ (wetB b x.number).lo ∧ (wetB b x.number).lo ≤ (wetB b x.number).hi ∧ (wetB b x.number).hi ≤ x.damp.hi ∧
    ∀ d ∈ dries b, (wetB b x.number).lo ≤ dLo d x ∧ dLo d x ≤ dHi d x ∧ dHi d x ≤ (wetB b x.number).hi ∧ weight d (dLo d x) = x.pounds := by
  have hB := valid_bds hv
  obtain ⟨h1, h2, h3⟩ := dry_first ho
  rw [(wet_at hv ho hx).2]
  dsimp only
  have each : ∀ d ∈ dries b, dLo (dryOf (dries b)).hi x ≤ dLo d x ∧ dLo d x ≤ dHi d x ∧ dHi d x ≤ dHi (dryOf (dries b)).lo x ∧ weight d (dLo d x) = x.pounds := fun d hd => by
    have f := bds_fit hB hd hx
    have f1 := bds_fit hB h1 hx
    have f2 := bds_fit hB h2 hx
    have a1 := dLo_anti f f2 (h3 d hd).2
    have a2 := dHi_anti f1 f (h3 d hd).1
    have s1 := dLo_spec f
    have s2 := dHi_spec f
    refine ⟨a1, ?_, a2, s1.2.2.1⟩
    rcases Int.lt_or_le (dHi d x) (dLo d x) with hlt | hle
    · have := s1.2.2.2 (dHi d x) s2.1 hlt
      omega
    · exact hle
  have g1 := each _ h1
  have g2 := each _ h2
  have s1 := dLo_spec (bds_fit hB h2 hx)
  have s2 := dHi_spec (bds_fit hB h1 hx)
  exact ⟨s1.1, by omega, s2.2.1, each⟩
/-- What is known of each weighing, against the bale's being put aside. -/
theorem aside_law {b : Bale} (hv : valid b = true) (ho : okB b = true) {n : Int} (h0 : 0 ≤ n) (h1 : n ≤ 200) :
    (kindK (kindS b) 1 = 0 → asideB b n = 2) ∧ (kindK (kindS b) 1 = 1 → asideB b n ≠ 0) ∧
    (∀ x ∈ b.weighs, (n < (wetB b x.number).lo → asideB b n = 2) ∧ (n < (wetB b x.number).hi → asideB b n ≠ 0)) ∧
    (asideB b n = 2 → (∃ x ∈ b.weighs, n < (wetB b x.number).hi) ∨ kindK (kindS b) 1 = 0) ∧
    (asideB b n = 0 → (¬ ∃ x ∈ b.weighs, n < (wetB b x.number).hi) ∧ kindK (kindS b) 1 = 2) ∧
    (b.weighs.length ≤ 1 → (asideB b n = 2 ↔ (∃ x ∈ b.weighs, n < (wetB b x.number).lo) ∨ kindK (kindS b) 1 = 0)) := by
  have hB := valid_bds hv
  obtain ⟨f1, f2, f3⟩ := dry_first ho
  have hsu : surelyL b n = true ↔ ∀ d ∈ dries b, ∃ x ∈ b.weighs, n < dLo d x := by
    unfold surelyL; simp [List.all_eq_true, List.any_eq_true]
  have hmy : mayL b n = true ↔ ∃ d ∈ dries b, ∃ x ∈ b.weighs, n < dHi d x := by
    unfold mayL; simp [List.any_eq_true]
  have hmy2 : mayL b n = true ↔ ∃ x ∈ b.weighs, n < (wetB b x.number).hi := by
    rw [hmy]
    constructor
    · rintro ⟨d, hd, x, hx, h⟩
      have := (wet_law hv ho hx).2.2.2 d hd
      exact ⟨x, hx, by omega⟩
    · rintro ⟨x, hx, h⟩
      rw [(wet_at hv ho hx).2] at h
      exact ⟨_, f1, x, hx, h⟩
  have hsu1 : (∃ x ∈ b.weighs, n < (wetB b x.number).lo) → surelyL b n = true := by
    rintro ⟨x, hx, h⟩
    rw [hsu]
    intro d hd
    have := (wet_law hv ho hx).2.2.2 d hd
    exact ⟨x, hx, by omega⟩
  have hsm : surelyL b n = true → mayL b n = true := fun h => by
    rw [hsu] at h
    rw [hmy]
    obtain ⟨x, hx, hh⟩ := h _ f1
    have := (wet_law hv ho hx).2.2.2 _ f1
    exact ⟨_, f1, x, hx, by omega⟩
  rw [asideB_ok hv ho h0 h1]
  have hk : (kindK (kindS b) 1 = 0 ↔ (kindS b).has 1 = false) ∧ (kindK (kindS b) 1 = 1 ↔ (kindS b).has 1 = true ∧ (kindS b).num ≠ 1) ∧ (kindK (kindS b) 1 = 2 ↔ (kindS b).has 1 = true ∧ (kindS b).num = 1) := by
    unfold kindK
    cases hh : (kindS b).has 1
    · simp
    · simp only [if_true]
      split <;> simp_all
  have hn : (kindS b).has 1 = true → 1 ≤ (kindS b).num := has1_num _
  rw [hk.1, hk.2.1, hk.2.2]
  have h2 : asideL (surelyL b n) (mayL b n) (kindS b) = 2 ↔ surelyL b n = true ∨ (kindS b).has 1 = false := by
    unfold asideL
    cases surelyL b n <;> cases (kindS b).has 1 <;> cases mayL b n <;> simp <;> split <;> simp
  have h00 : asideL (surelyL b n) (mayL b n) (kindS b) = 0 ↔ surelyL b n = false ∧ (kindS b).has 1 = true ∧ mayL b n = false ∧ ¬ 1 < (kindS b).num := by
    unfold asideL
    cases surelyL b n <;> cases (kindS b).has 1 <;> cases mayL b n <;> simp <;> omega
  refine ⟨fun h => h2.2 (.inr h), fun h => ?_, fun x hx => ⟨fun h => h2.2 (.inl (hsu1 ⟨x, hx, h⟩)), fun h => ?_⟩, fun h => ?_, fun h => ?_, fun hl => ?_⟩
  · rw [Ne, h00]
    rintro ⟨-, -, -, h4⟩
    have := hn h.1
    omega
  · rw [Ne, h00]
    rintro ⟨-, -, h3, -⟩
    rw [hmy2.2 ⟨x, hx, h⟩] at h3
    cases h3
  · rcases h2.1 h with h | h
    · exact .inl (hmy2.1 (hsm h))
    · exact .inr h
  · obtain ⟨g1, g2, g3, g4⟩ := h00.1 h
    refine ⟨fun hx => ?_, g2, by have := hn g2; omega⟩
    rw [hmy2.2 hx] at g3
    cases g3
  · rw [h2]
    constructor
    · rintro (h | h)
      · left
        rw [hsu] at h
        obtain ⟨x, hx, hh⟩ := h _ f2
        exact ⟨x, hx, by rw [(wet_at hv ho hx).2]; exact hh⟩
      · exact .inr h
    · rintro (h | h)
      · exact .inl (hsu1 h)
      · exact .inr h
/-- Whether one of the first k weighings was surely, or perhaps, damper. -/
def wetTo (b : Bale) (n : Int) (k : Nat) : Bool := (b.weighs.take k).any fun x => decide (n < (wetB b x.number).lo)
def dampTo (b : Bale) (n : Int) (k : Nat) : Bool := (b.weighs.take k).any fun x => decide (n < (wetB b x.number).hi)
theorem wetTo_succ {b : Bale} {n : Int} {k : Nat} {x : Weigh} (h : b.weighs[k]? = some x) : wetTo b n (k + 1) = (wetTo b n k || decide (n < (wetB b x.number).lo)) := by
  unfold wetTo; rw [List.take_add_one, h]; simp
theorem dampTo_succ {b : Bale} {n : Int} {k : Nat} {x : Weigh} (h : b.weighs[k]? = some x) : dampTo b n (k + 1) = (dampTo b n k || decide (n < (wetB b x.number).hi)) := by
  unfold dampTo; rw [List.take_add_one, h]; simp
/-- Whether one of the first j dampnesses explains a weighing. -/
def fndTo (d lo p : Int) (j : Nat) : Bool := (List.range j).any fun i => weight d (lo + (i : Int)) == p
theorem fndTo_succ (d lo p : Int) (j : Nat) : fndTo d lo p (j + 1) = (fndTo d lo p j || (weight d (lo + (j : Int)) == p)) := by
  unfold fndTo; rw [List.range_succ]; simp
theorem fnd_true {d lo p r : Int} {j : Nat} (h1 : lo ≤ r) (h2 : r < lo + (j : Int)) (h3 : weight d r = p) : fndTo d lo p j = true := by
  unfold fndTo
  rw [List.any_eq_true]
  refine ⟨(r - lo).toNat, List.mem_range.2 (by omega), ?_⟩
  rw [show lo + ((r - lo).toNat : Int) = r by omega, h3]
  simp
theorem wet_all (b : Bale) (n : Int) {k : Nat} (h : b.weighs.length ≤ k) : wetTo b n k = true ↔ ∃ x ∈ b.weighs, n < (wetB b x.number).lo := by
  unfold wetTo; rw [List.take_of_length_le h]; simp [List.any_eq_true]
theorem damp_all (b : Bale) (n : Int) {k : Nat} (h : b.weighs.length ≤ k) : dampTo b n k = true ↔ ∃ x ∈ b.weighs, n < (wetB b x.number).hi := by
  unfold dampTo; rw [List.take_of_length_le h]; simp [List.any_eq_true]
theorem aside_bd {b : Bale} (hv : valid b = true) (ho : okB b = true) {n : Int} (h0 : 0 ≤ n) (h1 : n ≤ 200) : asideB b n = 0 ∨ asideB b n = 1 ∨ asideB b n = 2 := by
  rw [asideB_ok hv ho h0 h1]
  unfold asideL
  split
  · simp
  · split <;> simp

/-- What stands in the last line of the law, hidden from simp. -/
def AsideFacts (b : Bale) (n v sd : Int) : Prop :=
  (sd = 2 → (∃ x ∈ b.weighs, n < (wetB b x.number).hi) ∨ v = 0) ∧ (sd = 0 → (¬ ∃ x ∈ b.weighs, n < (wetB b x.number).hi) ∧ v = 2) ∧ (b.weighs.length ≤ 1 → (sd = 2 ↔ (∃ x ∈ b.weighs, n < (wetB b x.number).lo) ∨ v = 0))
theorem aside_facts {b : Bale} (hv : valid b = true) (ho : okB b = true) {n : Int} (h0 : 0 ≤ n) (h1 : n ≤ 200) : AsideFacts b n (kindK (kindS b) 1) (asideB b n) := by
  obtain ⟨_, _, _, a4, a5, a6⟩ := aside_law hv ho h0 h1
  exact ⟨a4, a5, a6⟩
theorem aside_fin {b : Bale} {n v sd : Int} (h : AsideFacts b n v sd) {k : Nat} (hk : b.weighs.length = k) :
    (sd = 2 → dampTo b n k = true ∨ v = 0) ∧ (sd = 0 → dampTo b n k = false ∧ v = 2) ∧ (1 < k ∨ (sd = 2 ↔ wetTo b n k = true ∨ v = 0)) := by
  obtain ⟨a4, a5, a6⟩ := h
  have hd := damp_all b n (k := k) (by omega)
  have hw := wet_all b n (k := k) (by omega)
  refine ⟨fun h => by rw [hd]; exact a4 h, fun h => ⟨?_, (a5 h).2⟩, ?_⟩
  · cases hb : dampTo b n k with
    | false => rfl
    | true => exact absurd (hd.1 hb) (a5 h).1
  · by_cases h : 1 < k
    · exact .inl h
    · exact .inr (by rw [hw]; exact a6 (by omega))
end Go.Proofs.YtfhmfbhpehldpaaGreatDoor
