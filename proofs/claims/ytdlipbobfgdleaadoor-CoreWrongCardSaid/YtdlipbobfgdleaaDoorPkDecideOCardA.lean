/- The plain law of CoreDecide: the layers that are told decide, and no list before them does. -/
import Derived.Test.YtdlipbobfgdleaaDoorPkAskOCardA
import Derived.Test.YtdlipbobfgdleaaDoorPkTruthCardR
import Derived.Test.YtdlipbobfgdleaaDoorPkTruthCardM
import Derived.Test.YtdlipbobfgdleaaDoorPkTruthCardP
import Derived.Test.YtdlipbobfgdleaaDoorPkTruthCardC
namespace Go.Proofs.YtdlipbobfgdleaaDoor
open Go.RowKit Go.Shelf Go.Lib
set_option maxRecDepth 100000
set_option linter.unusedSimpArgs false

theorem lists_sorted (n : Nat) (h0 : 0 < n) (h5 : n ≤ 5) : ∀ x ∈ listsL (ints n) n, x.Pairwise (· < ·) := by
  obtain rfl | rfl | rfl | rfl | rfl : n = 1 ∨ n = 2 ∨ n = 3 ∨ n = 4 ∨ n = 5 := by omega
  all_goals decide +kernel
theorem lists_full (n : Nat) (h0 : 0 < n) (h5 : n ≤ 5) : ints n ∈ listsL (ints n) n := by
  obtain rfl | rfl | rfl | rfl | rfl : n = 1 ∨ n = 2 ∨ n = 3 ∨ n = 4 ∨ n = 5 := by omega
  all_goals decide +kernel
theorem lists_bits (n : Nat) (h0 : 0 < n) (h5 : n ≤ 5) : ∀ s, s < 256 → setOf n s ∈ listsL (ints n) n := by
  obtain rfl | rfl | rfl | rfl | rfl : n = 1 ∨ n = 2 ∨ n = 3 ∨ n = 4 ∨ n = 5 := by omega
  all_goals decide +kernel
theorem find_least {f : List Int → Bool} {M : List (List Int)} (hs : M.Pairwise fun a b => beforeL a b = true) {y : List Int} (hy : y ∈ M) (hf : f y = true) :
    ∃ x, M.find? f = some x ∧ x ∈ M ∧ f x = true ∧ (y = x ∨ beforeL x y = true) := by
  cases e : M.find? f with
  | none => have := List.find?_eq_none.1 e _ hy; rw [hf] at this; simp at this
  | some x =>
    obtain ⟨hx, m1, m2, rfl, has⟩ := List.find?_eq_some_iff_append.1 e
    refine ⟨x, rfl, by simp, hx, ?_⟩
    rcases List.mem_append.1 hy with hm | hm
    · have := has _ hm; rw [hf] at this; simp at this
    · rcases List.mem_cons.1 hm with hm | hm
      · exact .inl hm
      · exact .inr ((List.pairwise_cons.1 (List.pairwise_append.1 hs).2.1).1 _ hm)
theorem restr_full {n : Nat} (h5 : n ≤ 5) {t u : List Int} (ht : t.length = n) (hu : u.length = n) (h : restr (ints n) t = restr (ints n) u) : t = u := by
  have h2 := (restr_iff (fun i hi => by have := ints_mem hi; omega) t u).1 h
  apply List.ext_getElem?
  intro i
  by_cases hi : i < n
  · have := h2 (i : Int) (by unfold ints; exact List.mem_map.2 ⟨i, List.mem_range.2 hi, rfl⟩)
    rw [Int.toNat_natCast] at this
    rw [List.getElem?_eq_getElem (by omega), List.getElem?_eq_getElem (by omega)] at this ⊢
    simp only [Option.getD_some] at this
    rw [this]
  · rw [List.getElem?_eq_none (by omega), List.getElem?_eq_none (by omega)]
/-- What the list that is told is. -/
structure DecOf (b : Bale) (l : List Int) : Prop where
  len : l.length ≤ b.layers.toNat
  bd : ∀ i ∈ l, 0 ≤ i ∧ i < b.layers
  up : l.Pairwise (· < ·)
  cons : ∀ t ∈ truthsB b, ∀ u ∈ truthsB b, restr l t = restr l u → kindL t = kindL u
  one : mayN (kindS b) 4 = 1 ↔ l = []
  least : ∀ s, s < 256 → beforeL (setOf b.layers.toNat s) l = true → consB (setOf b.layers.toNat s) (truthsB b) = false
theorem dec_of {b : Bale} (hv : valid b = true) (ho : okB b = true) : DecOf b (decB b) := by
  obtain ⟨s1, s2, s3⟩ := spans5 hv
  have hB := valid_bds hv
  have hd : decB b = ((listsL (ints b.layers.toNat) b.layers.toNat).find? fun l => consB l (truthsB b)).getD [] := by
    unfold decB
    rw [ask_ok hv ho, if_pos rfl]
    unfold decS truthsB
    rw [s3]
  rw [hd]
  have l0 : 0 < b.layers.toNat := by omega
  have l5 : b.layers.toNat ≤ 5 := by omega
  obtain ⟨-, -, hs⟩ := sets_lists b.layers.toNat l0 l5
  have hfull : consB (ints b.layers.toNat) (truthsB b) = true := (consB_iff _ _).2 fun t ht u hu h => by
    rw [restr_full l5 ((truth_iff hv t).1 ht).1 ((truth_iff hv u).1 hu).1 h]
  obtain ⟨x, e, hx, hc, -⟩ := find_least (f := fun l => consB l (truthsB b)) hs (lists_full _ l0 l5) hfull
  rw [e, Option.getD_some]
  have hm := lists_mem hx
  have hne : truthsB b ≠ [] := truths_ne s1 (grown_at (ok_grown ho))
  refine ⟨hm.2.1, fun i hi => ?_, lists_sorted _ l0 l5 x hx, (consB_iff _ _).1 hc, ?_, fun s h256 hb => ?_⟩
  · have := ints_mem (hm.1 i hi); omega
  · have h1 := num_one hne
    rw [mayN_num]
    have h2 : ((kindS b).num : Int) = 1 ↔ consB [] (truthsB b) = true := by
      rw [← h1, beq_iff_eq]
      show ((kindS b).num : Int) = 1 ↔ (kindS b).num = 1
      omega
    rw [h2]
    constructor
    · intro h
      obtain ⟨r, er⟩ := lists_nil (ints b.layers.toNat) b.layers.toNat
      rw [er, List.find?_cons, h] at e
      injection e with e
      exact e.symm
    · intro h; rw [h] at hc; exact hc
  · cases hh : consB (setOf b.layers.toNat s) (truthsB b) with
    | false => rfl
    | true =>
      obtain ⟨x', e', -, -, h⟩ := find_least (f := fun l => consB l (truthsB b)) hs (lists_bits _ l0 l5 s h256) hh
      rw [e] at e'
      injection e' with e'
      subst e'
      rcases h with h | h
      · rw [h, before_irr] at hb; cases hb
      · have := before_trans h hb
        rw [before_irr] at this; cases this

/-! With the told layers shown one kind is left. -/
def tellF (b : Bale) (l t : List Int) (j : Nat) : Span := if (j : Int) ∈ l then ⟨(t[j]?).getD 0, (t[j]?).getD 0⟩ else ownF b j
theorem tell_fit {b : Bale} (hv : valid b = true) (ho : okB b = true) {l t : List Int} (ht : t ∈ truthsB b) : FitS (tellF b l t) b.layers.toNat := by
  intro j hj
  have hf := own_fit hv (ok_grown ho) j hj
  unfold tellF
  split
  · obtain ⟨n, e, h1, h2⟩ := truth_layer hv ht hj
    have h3 : (ownF b j).lo ≤ n ∧ n ≤ (ownF b j).hi := ⟨h1, h2⟩
    rw [e]
    simp only [Option.getD_some]
    omega
  · exact hf
theorem tell_one {b : Bale} (hv : valid b = true) (ho : okB b = true) {l t : List Int} (hl : DecOf b l) (ht : t ∈ truthsB b) : mayN (kindS (layB b (tellF b l t))) 4 = 1 := by
  have hf := tell_fit hv ho (l := l) ht
  obtain ⟨v2, o2⟩ := lay_fine hv ho hf
  have hne : truthsB (layB b (tellF b l t)) ≠ [] := truths_ne (spans5 v2).1 (grown_at (ok_grown o2))
  have h1 := num_one hne
  have h2 : consB [] (truthsB (layB b (tellF b l t))) = true := by
    have key : ∀ u ∈ truthsB (layB b (tellF b l t)), u ∈ truthsB b ∧ restr l u = restr l t := by
      intro u hu
      rw [truth_iff v2] at hu
      obtain ⟨u1, u2⟩ := hu
      have u1 : u.length = b.layers.toNat := u1
      have hat : ∀ i, i < b.layers.toNat → ∃ n, ((tellF b l t i).lo ≤ n ∧ n ≤ (tellF b l t i).hi) ∧ u[i]? = some n := fun i hi =>
        u2 i _ (by rw [lay_spans hf, List.getElem?_map, List.getElem?_range hi]; rfl)
      refine ⟨(truth_iff hv u).2 ⟨u1, fun i x hx => ?_⟩, (restr_iff (fun i hi => by have := hl.bd i hi; have := (valid_bds hv).l5; omega) u t).2 fun i hi => ?_⟩
      · have hi : i < b.layers.toNat := by have := (List.getElem?_eq_some_iff.1 hx).1; rwa [(spans5 hv).2.2] at this
        rw [spans_get hi] at hx
        injection hx with hx
        subst hx
        obtain ⟨n, hn, e⟩ := hat i hi
        refine ⟨n, ?_, e⟩
        unfold tellF at hn
        split at hn
        · obtain ⟨m, e2, h1, h2⟩ := truth_layer hv ht hi
          rw [e2] at hn
          simp only [Option.getD_some] at hn
          omega
        · exact hn
      · have hb := hl.bd i hi
        obtain ⟨n, hn, e⟩ := hat i.toNat (by omega)
        unfold tellF at hn
        rw [if_pos (by rwa [show ((i.toNat : Nat) : Int) = i by omega])] at hn
        dsimp only at hn
        rw [e, Option.getD_some]
        omega
    rw [consB_iff]
    intro u hu u' hu' _
    have k1 := key u hu
    have k2 := key u' hu'
    exact hl.cons u k1.1 u' k2.1 (k1.2.trans k2.2.symm)
  rw [mayN_num]
  rw [h2, beq_iff_eq] at h1
  show (((kindsOf (truthsB (layB b (tellF b l t)))).num : Nat) : Int) = 1
  omega
theorem may_pos {b : Bale} (hv : valid b = true) (ho : okB b = true) : 1 ≤ mayN (kindS b) 4 := by
  rw [mayN_num]
  have := num_pos (truths_ne (spans5 hv).1 (grown_at (ok_grown ho)))
  show (1 : Int) ≤ (((kindsOf (truthsL ((spans b).zip [0, 0, 0, 0, 0]))).num : Nat) : Int)
  omega
end Go.Proofs.YtdlipbobfgdleaaDoor
/- A map whose keys are arrays of five numbers. -/
namespace Go.Proofs.YtdlipbobfgdleaaDoor
open Go.RowKit Go.Shelf
set_option maxRecDepth 100000
set_option linter.unusedSimpArgs false

theorem mh_row : (126 : TypeId) < Tryd.prog.types.size := of_decide_eq_true (by kernel_rfl)
theorem mh_wide : (match Tryd.prog.underlying 126 with | some (.array _ _) | some (.struct _) => true | _ => false) = true := by rw [Tryd.underlying126]
theorem mh_law : Maps.Keyed Tryd.prog 126 := Maps.Keyed.of_law (deep_law_laid mg_laid (m := 2) (by omega) mh_row (by kernel_rfl) mh_wide)
theorem mh_key : Tryd.prog.keyType 126 = true := by kernel_rfl
theorem mh_cells : Tryd.prog.cellsOf 126 = 5 := by kernel_rfl
theorem mh_types : ∃ n, Tryd.prog.types.size + 1 = n + 2 := ⟨Tryd.prog.types.size - 1, by have h : 0 < Tryd.prog.types.size := Nat.lt_of_le_of_lt (Nat.zero_le _) mh_row; omega⟩

theorem lits_fiveH (n : Nat) {a b c d e : Int} (wa : (Lit.int .i64 a).wf = true) (wb : (Lit.int .i64 b).wf = true) (wc : (Lit.int .i64 c).wf = true) (wd : (Lit.int .i64 d).wf = true) (we : (Lit.int .i64 e).wf = true) :
    Tryd.prog.keyLits (n + 2) 126 [.int .i64 a, .int .i64 b, .int .i64 c, .int .i64 d, .int .i64 e] = some [.int .i64 a, .int .i64 b, .int .i64 c, .int .i64 d, .int .i64 e] := by
  unfold Program.keyLits
  rw [Tryd.underlying126]
  have hr : List.range 5 = [0, 1, 2, 3, 4] := by decide
  simp only [mh_cells, mg_cell, List.length_cons, List.length_nil, Nat.zero_add, Nat.reduceAdd, if_true, hr, List.mapM_cons, List.mapM_nil, Nat.mul_one, List.drop_zero, List.drop_succ_cons, List.take_succ_cons, List.take_zero, lits_one n wa, lits_one n wb, lits_one n wc, lits_one n wd, lits_one n we, Option.bind_eq_bind, Option.bind_some, Option.pure_def, Option.map_some, List.flatten_cons, List.flatten_nil, List.cons_append, List.nil_append]
theorem key_someH {l : List Int} (h : K5 l) : ∃ kl, keyOf Tryd.prog 126 (agg5 l) = some kl := by
  obtain ⟨hl, hb⟩ := h
  match l, hl with
  | [a, b, c, d, e], _ =>
    obtain ⟨n, hn⟩ := mh_types
    have wa := small_wf (hb a (by simp))
    have wb := small_wf (hb b (by simp))
    have wc := small_wf (hb c (by simp))
    have wd := small_wf (hb d (by simp))
    have we := small_wf (hb e (by simp))
    refine ⟨.string (keyBytes [.int .i64 a, .int .i64 b, .int .i64 c, .int .i64 d, .int .i64 e]), ?_⟩
    have hf : (agg5 [a, b, c, d, e]).formed Tryd.prog 126 = true := by
      unfold agg5 Value.formed
      simp only [Tryd.underlying126, mh_cells]
      rfl
    unfold keyOf
    rw [Tryd.underlying126]
    simp only [mh_key, hf, Bool.and_self, if_true, hn]
    show (Program.keyLits Tryd.prog (n + 2) 126 [.int .i64 a, .int .i64 b, .int .i64 c, .int .i64 d, .int .i64 e]).map _ = _
    rw [lits_fiveH n wa wb wc wd we]
    rfl

def MapH (W : World) (m n : Nat) (g : List Int → Option Int) : Prop :=
  ∃ D : DataW Unit, W.ownsMap Tryd.prog 126 (plainElem Tryd.prog 3) m n D ∧ ∀ l, K5 l → ∀ kl, keyOf Tryd.prog 126 (agg5 l) = some kl → Maps.has D kl = (g l).isSome ∧ ∀ v, g l = some v → ∀ z, D.atKey kl z = .lit (.int .i64 v)
theorem MapH.made (w : World) : MapH (w.alloc (.map #[] 0)) w.heap.size 0 (fun _ => none) :=
  ⟨.map [], World.ownsMap_made w _ _ _, fun l _ kl _ => ⟨rfl, fun v h => by cases h⟩⟩
theorem MapH.lt {W : World} {m n : Nat} {g : List Int → Option Int} (h : MapH W m n g) : m < W.heap.size := by
  obtain ⟨D, h, _⟩ := h
  exact World.ownsMap.lt h
theorem MapH.at_ {W W' : World} {m n : Nat} {g : List Int → Option Int} (h : MapH W m n g) (e : W'.heap[m]? = W.heap[m]?) : MapH W' m n g := by
  obtain ⟨D, ⟨es, clock, hb, F, hs, hD⟩, hg⟩ := h
  exact ⟨D, ⟨es, clock, e.trans hb, F, hs, hD⟩, hg⟩
theorem MapH.ext {W W' : World} {m n : Nat} {g : List Int → Option Int} (h : MapH W m n g) (e : Ext W W') : MapH W' m n g := h.at_ (e.block m h.lt)
theorem MapH.noCells {W : World} {m n : Nat} {g : List Int → Option Int} (h : MapH W m n g) : ¬ ∃ c t f, W.heap[m]? = some (.cells c t f) := by
  obtain ⟨D, ⟨es, clock, hb, _⟩, _⟩ := h
  rintro ⟨c, t, f, h⟩
  rw [hb] at h
  cases h
theorem MapH.store {W : World} {m n : Nat} {g : List Int → Option Int} (h : MapH W m n g) {l : List Int} (hl : K5 l) (hn : n < 100000000) {v : Int} (hv : 0 ≤ v ∧ v ≤ 9) :
    ∃ W', (Instr.mapUpdate 94 (.map (some m)) (agg5 l) (.int .i64 v)).run Tryd.prog W = .ok () W' ∧ MapH W' m (n + 1) (fun x => if x = l then some v else g x) ∧ W.grownBy W' (some m) := by
  obtain ⟨D, ho, hg⟩ := h
  obtain ⟨kl, hk⟩ := key_someH hl
  obtain ⟨W', hr, ho', ht⟩ := ho.store mh_law Tryd.underlying94 (by unfold maxLen; omega) hk (plainElem_int Tryd.underlying3 (small_wf hv))
  refine ⟨W', hr, ⟨_, ho', fun x hx kx hkx => ?_⟩, ht.grown⟩
  have hkey := mh_law.key hk
  by_cases hxl : x = l
  · subst hxl
    rw [hk] at hkx
    injection hkx with hkx
    subst hkx
    refine ⟨by rw [Maps.has_put_same ho.isMap hkey]; simp, fun u hu z => ?_⟩
    simp at hu
    subst hu
    exact Maps.atKey_put_same ho.isMap hkey _ _
  · have hne : kx ≠ kl := fun e => hxl (agg5_inj (mh_law.inj hkx (e ▸ hk)))
    obtain ⟨h1, h2⟩ := hg x hx kx hkx
    refine ⟨by rw [Maps.has_put_other hne, h1]; simp [hxl], fun u hu z => ?_⟩
    simp only [hxl, if_false] at hu
    rw [Maps.atKey_put_other hne]
    exact h2 u hu z
theorem MapH.look {W : World} {m n : Nat} {g : List Int → Option Int} (h : MapH W m n g) {l : List Int} (hl : K5 l) :
    ∃ v : Int, (Instr.lookup 94 (.map (some m)) (agg5 l) true).run Tryd.prog W = .ok (.tuple #[.int .i64 v, .bool (g l).isSome]) W ∧ ∀ u, g l = some u → v = u := by
  obtain ⟨D, ho, hg⟩ := h
  obtain ⟨kl, hk⟩ := key_someH hl
  obtain ⟨h1, h2⟩ := hg l hl kl hk
  obtain ⟨v, ps, hr, hv⟩ := ho.look_ok mh_law Tryd.underlying94 (Tryd.zeroValue3 W) (plainElem_int Tryd.underlying3 (by decide)) hk
  obtain ⟨c, rfl, hc, _⟩ := plainElem_int_inv Tryd.underlying3 hv
  rw [h1] at hr
  refine ⟨c, hr, fun u hu => ?_⟩
  have := h2 u hu (.lit (.int .i64 0))
  simp only [Prod.mk.injEq] at hc
  rw [this] at hc
  injection hc.1 with hc
  injection hc with _ hc
  exact hc.symm
end Go.Proofs.YtdlipbobfgdleaaDoor
/- middlinglaw03.unlike: whether truths look alike in some layers, and are of unlike kinds. -/
namespace Go.Proofs.YtdlipbobfgdleaaDoor
open Go.RowKit Go.Shelf Go.Lib
set_option maxRecDepth 100000
set_option linter.unusedSimpArgs false

/-- What a call of unlike does: the map holds the truths behind it; it tells whether two were unlike. -/
structure UnPost (l : List Int) (m : Nat) (T : List (List Int)) (w : World) (e : Ending) (w' : World) : Prop where
  out : ∃ r, e = .returned (.bool r) ∧ w.grownBy w' (some m) ∧ (r = true → consB l T = false) ∧ (r = false → consB l T = true ∧ MapH w' m T.length (gOf l T))

set_option maxHeartbeats 4000000 in
theorem unlike_leaf {l : List Int} {n1 c1 : Nat} {A1 : Option Addr} {sp : List Span} {bb off cs : Nat} (g : List Int) (A2 : Option Addr) (c2 m : Nat) (pre : List (List Int)) (w : World) (hg : g.length = sp.length) (h0 : 0 < sp.length) (h5 : sp.length ≤ 5)
    (hb : ∀ n ∈ g, 1 ≤ n ∧ n ≤ 9) (hli : ∀ i ∈ l, 0 ≤ i ∧ i < (sp.length : Int)) (hl : SlI w (.slice A1 n1 c1) l) (hgs : SlI w (.slice A2 g.length c2) g) (hm : MapH w m pre.length (gOf l pre)) (hc : consB l pre = true) (hp : pre.length < 100000000) :
    Calls Tryd.prog 65 #[.slice (some ⟨bb, off, none⟩) sp.length cs, .slice A1 n1 c1, .slice A2 g.length c2, .map (some m)] w (UnPost l m (pre ++ [g]) w) := by
  have HL := Lib.hid hl; have HG := Lib.hid hgs; have HM := Lib.hid hm; have HC := Lib.hid hc; have HP := Lib.hid hp; have HB := Lib.hid hb; have HLI := Lib.hid hli
  have HN := Lib.hid (And.intro h0 h5)
  have hnl : n1 = l.length := by obtain ⟨_, _, h, _⟩ := hl; injection h
  have HNL := Lib.hid hnl
  have HGL := Lib.hid hg
  rw [hg] at HG ⊢
  generalize sp.length = nn at *
  clear hl hgs hm hc hp hb hli h0 h5 hnl hg
  go_enter Tryd.func65, Tryd.ntmps65
  go_wp2
  go_loopg [12, 49] n1 (fun gg s12 s49 wr => ∃ kk : Nat, kk ≤ n1 ∧ n1 - kk ≤ gg ∧ s49 = .int .i64 (kk : Int) ∧ Aside (Ext w wr) ∧ Aside (Blk wr w.heap.size 126 ((restr (l.take kk) g).map (Value.int .i64)).toArray))
  case atStart => exact ⟨0, by omega, by omega, rfl, Ext.al _ _, Blk.new _ _ _⟩
  case round =>
    obtain ⟨kk, hkk, hgg, rfl, EX, BX⟩ := hrel
    by_cases hlt3 : kk < n1
    · have hltz : (kk : Int) < (n1 : Int) := by omega
      obtain ⟨bl, ol, i, rfl, hi, hbl, hic⟩ := HL.out.at_ hlt3
      have c0 := SlI.cell hic EX.out
      obtain ⟨hi0, hi1⟩ := HLI.out i (List.mem_of_getElem? hi)
      obtain ⟨i', rfl⟩ : ∃ i' : Nat, i = (i' : Int) := ⟨i.toNat, by omega⟩
      have hnb : (n1 : Int) ≤ 9223372036854775807 := by obtain ⟨_, _, h1, h2, h3, _⟩ := HL.out; injection h1 with _ h1 _; unfold maxLen at h3; omega
      have hi5 : (i' : Int) < 5 := by have := HN.out; omega
      have hin : (i' : Int) < (nn : Int) := by omega
      obtain ⟨bx, ox, y, rfl, hy, hbx, hyc⟩ := HG.out.at_ (show i' < nn by omega)
      have c1 := SlI.cell hyc EX.out
      obtain ⟨u0, hu0⟩ : ∃ u0, (restr (l.take kk) g)[i']? = some u0 := ⟨_, List.getElem?_eq_getElem (by rw [restr_len]; omega)⟩
      have t0 : wr.cell? ⟨w.heap.size, i', none⟩ = some (.int .i64 u0) := by rw [BX.out.cell]; simp [hu0]
      have tf := BX.out.frozen
      have tl := BX.out.lt
      have HY := Lib.hid (show restr (l.take (kk + 1)) g = (restr (l.take kk) g).set i' y by
        rw [List.take_add_one, hi]
        show restr (l.take kk ++ [(i' : Int)]) g = _
        rw [restr_snoc]
        simp [hy])
      clear hi hic hy hyc hu0
      go_wp2
      go_roundg (n1 - (kk + 1))
      case measure => omega
      case rel => exact ⟨kk + 1, by omega, by omega, by simp, EX.out.setCell (by dsimp only; omega) _, by rw [HY.out]; show Blk _ _ _ _; have := BX.out.set_ i' (.int .i64 y); simpa using this⟩
    · have HTK := Lib.hid (show l.take kk = l from List.take_of_length_le (by have := HNL.out; omega))
      rw [HTK.out] at BX
      go_wp2_with fail
      refine (kindR_any g _ _ (HG.out.ext EX.out) (by have := HGL.out; have := HN.out; omega) (by have := HGL.out; have := HN.out; omega) HB.out).mono ?_
      rintro e W1 ⟨rfl, hE⟩
      rw [kindR_eq (by have := HGL.out; have := HN.out; omega) HB.out]
      have EW := Ext.trans EX.out hE
      have hK5 := restr_k5 (l := l) HB.out
      have hkb := kindL_bd g
      obtain ⟨vv, rr1, hvv⟩ := (HM.out.ext EW).look hK5
      obtain ⟨W2, rr2, hm2, hg2⟩ := (HM.out.ext EW).store hK5 HP.out (v := kindL g) (by omega)
      have BX1 := BX.out.ext hE
      have HCS := Lib.hid (cons_snoc (l := l) (pre := pre) (x := g) HC.out)
      have HCF := Lib.hid (fun v => cons_fail (l := l) (pre := pre) (x := g) (v := v))
      rw [← gOf_snoc] at hm2
      have h5 := hK5.1
      generalize hrs : restr l g = rs at *
      match rs, h5 with
      | [a0, a1, a2, a3, a4], _ =>
      have b0 := BX1.cell 0
      have b1 := BX1.cell 1
      have b2 := BX1.cell 2
      have b3 := BX1.cell 3
      have b4 := BX1.cell 4
      have blt := BX1.lt
      simp at b0 b1 b2 b3 b4
      have HEW := Lib.hid EW; have HM2 := Lib.hid hm2; have HG2 := Lib.hid hg2; have HVV := Lib.hid hvv
      have HS2 := Lib.hid (grown_trans (show w.grownBy W1 (some m) from ⟨EW.os, EW.tape, EW.output, EW.size, fun i hi _ => EW.block i hi⟩) hg2)
      unfold agg5 at rr1 rr2
      simp only [List.map_cons, List.map_nil] at rr1 rr2
      clear EW hm2 hg2 hvv hE hK5 BX1 BX
      cases hgx : gOf l pre [a0, a1, a2, a3, a4] with
      | none =>
        rw [hgx] at rr1
        simp only [Option.isSome_none] at rr1
        go_wp2
        go_ret
        exact ⟨⟨false, rfl, HS2.out, fun h => by (cases h), fun _ => ⟨HCS.out (fun v hv => by (rw [hgx] at hv; cases hv)), by rw [List.length_append]; exact HM2.out⟩⟩⟩
      | some v =>
        obtain rfl := HVV.out v hgx
        rw [hgx] at rr1
        simp only [Option.isSome_some] at rr1
        by_cases hvk : vv = kindL g
        · subst hvk
          go_wp2
          go_ret
          exact ⟨⟨false, rfl, HS2.out, fun h => by (cases h), fun _ => ⟨HCS.out (fun v hv => by (rw [hgx] at hv; injection hv with hv; exact hv.symm)), by rw [List.length_append]; exact HM2.out⟩⟩⟩
        · have hvb : (vv != kindL g) = true := by simpa using hvk
          have HF := Lib.hid (HCF.out vv hgx hvk)
          go_wp2
          go_ret
          exact ⟨⟨true, rfl, HS2.out, fun _ => HF.out, fun h => by (cases h)⟩⟩
set_option maxHeartbeats 4000000 in
theorem unlike_any {l : List Int} {n1 c1 m : Nat} {A1 : Option Addr} {sp : List Span} {bb off cs : Nat} (h0 : 0 < sp.length) (h5 : sp.length ≤ 5) (hbd : ∀ x ∈ sp, 1 ≤ x.lo ∧ x.lo ≤ x.hi ∧ x.hi ≤ 9) (hli : ∀ i ∈ l, 0 ≤ i ∧ i < (sp.length : Int)) (hbm : bb ≠ m) (hlm : ∀ b o, A1 = some ⟨b, o, none⟩ → b ≠ m) :
    ∀ (k : Nat) (g : List Int) (A2 : Option Addr) (c2 : Nat) (pre : List (List Int)) (w : World), g.length + k = sp.length → (∀ n ∈ g, 1 ≤ n ∧ n ≤ 9) → (∀ b o, A2 = some ⟨b, o, none⟩ → b ≠ m) → SlS w (.slice (some ⟨bb, off, none⟩) sp.length cs) sp → SlI w (.slice A1 n1 c1) l → SlI w (.slice A2 g.length c2) g →
      MapH w m pre.length (gOf l pre) → consB l pre = true → (pre ++ exts g ((zOf sp).drop g.length)).length ≤ 1000000 →
      Calls Tryd.prog 65 #[.slice (some ⟨bb, off, none⟩) sp.length cs, .slice A1 n1 c1, .slice A2 g.length c2, .map (some m)] w (UnPost l m (pre ++ exts g ((zOf sp).drop g.length)) w) := by
  intro k
  induction k with
  | zero =>
    intro g A2 c2 pre w hg hb hgm hs hl hgs hm hc hp
    have hd : (zOf sp).drop g.length = [] := List.drop_eq_nil_of_le (by simp [zOf]; omega)
    have he : exts g ((zOf sp).drop g.length) = [g] := by rw [hd]; simp [exts, truthsL]
    rw [he] at hp ⊢
    exact unlike_leaf g A2 c2 m pre w (by omega) h0 h5 hb hli hl hgs hm hc (by rw [List.length_append] at hp; simp at hp; omega)
  | succ k ih =>
    intro g A2 c2 pre w hg hb hgm hs hl hgs hm hc hp
    have hat : g.length < sp.length := by omega
    obtain ⟨x, hx⟩ : ∃ x, sp[g.length]? = some x := ⟨_, List.getElem?_eq_getElem hat⟩
    have hdr := zOf_drop hx
    have hbx := hbd x (List.mem_of_getElem? hx)
    generalize hr : (zOf sp).drop (g.length + 1) = r at hdr
    rw [hdr] at hp ⊢
    have hex : exts g ((x, 0) :: r) = doneTo g (x, 0) r (x.hi - x.lo + 1).toNat := exts_cons g (x, 0) r
    rw [hex] at hp ⊢
    generalize hN : (x.hi - x.lo + 1).toNat = N at hp ⊢
    obtain ⟨A', c', hv0, hlc, hcm, _⟩ := id hs
    injection hv0 with e1 e2 e3
    subst e1 e3
    obtain ⟨A'', c'', hv0', hlc', hcm', _⟩ := id hgs
    injection hv0' with e1' e2' e3'
    subst e1' e3'
    generalize hgl : g.length = n at *
    have HS := Lib.hid hs; have HL := Lib.hid hl; have HG := Lib.hid hgs; have IH := Lib.hid ih; have HGM := Lib.hid hgm; have HBD := Lib.hid hb
    have HM := Lib.hid hm; have HC := Lib.hid hc; have HP := Lib.hid hp
    have HR := Lib.hid hr; have HGL := Lib.hid hgl
    obtain ⟨bb', off', x', e1, hx', hbl, hxc⟩ := hs.at_ hat
    injection e1 with e1
    injection e1 with e1 e2
    subst e1 e2
    obtain rfl : x' = x := by rw [hx] at hx'; injection hx' with h; exact h.symm
    have hatz : (n : Int) < (sp.length : Int) := by omega
    have hnz : (0 : Int) ≤ (n : Int) := by omega
    have hn1000 : n ≤ 1000 := by omega
    have HXC := Lib.hid hxc; have HXX := Lib.hid hx'
    clear hs hl hgs ih hgm hb hm hc hp hr hgl hdr hex hxc hx'
    obtain ⟨c0, c1⟩ := SlS.cells HXC.out (Ext.refl _)
    go_enter Tryd.func65, Tryd.ntmps65
    go_wp2
    clear c0 c1
    go_loopg [9] N (fun gg s9 wr => ∃ q : Nat, q ≤ N ∧ N - q ≤ gg ∧ s9 = .int .i64 (x'.lo + (q : Int)) ∧ Aside (w.grownBy wr (some m)) ∧ Aside (consB l (pre ++ doneTo g (x', 0) r q) = true ∧ MapH wr m (pre ++ doneTo g (x', 0) r q).length (gOf l (pre ++ doneTo g (x', 0) r q))))
    case atStart => exact ⟨0, by omega, by omega, by simp, World.grownBy.refl _ _, by show _ ∧ _; simpa [doneTo, gTo] using And.intro HC.out HM.out⟩
    case round =>
      obtain ⟨q, hq, hgg, rfl, HGR, HBL⟩ := hrel
      have HSW := Lib.hid (HS.out.grown HGR.out (fun b o e => by injection e with e; injection e with e1 e2; rw [← e1]; exact hbm))
      have HLW := Lib.hid (HL.out.grown HGR.out hlm)
      have hxw : SlS wr (.slice (some ⟨bb, off, none⟩) sp.length cs) sp := HSW.out
      obtain ⟨bb', off', x2, e1, hx2, hbl2, hxc2⟩ := hxw.at_ hat
      have hnx : x2 = x' := by
        have := HXX.out
        rw [hx2] at this; injection this
      injection e1 with e1
      injection e1 with e1 e2
      subst e1 e2 hnx
      have c01 := SlS.cells hxc2 (Ext.refl _)
      obtain ⟨c0, c1⟩ := c01
      clear hxw hxc2
      by_cases hqN : q < N
      · have hle : x2.lo + (q : Int) ≤ x2.hi := by omega
        clear hbl2 hx2
        go_wp2_with (at_builtin; refine wpList_copy rfl (.tmp 39) (.tmp 40) rfl (base := wr.heap.size) (g := wr.heap.size) rfl rfl (Blk.new _ _ _) (Nat.le_refl _) (by simp) ((HG.out.grown HGR.out HGM.out).ext (Ext.al _ _)) (by have := HGL.out; omega) ?_)
        intro v1 w1 hown hext
        have HO1 := Lib.hid hown; have HE1 := Lib.hid (show Ext wr w1 from (Ext.al _ _).trans hext); clear hown hext
        go_wp2_with (at_builtin; refine wpList_app encI 56 3 1 _ 8 Tryd.underlying56 info3x rfl (by decide) (by decide) (fun _ => rfl) encI_one rfl (.tmp 41) (.tmp 43) rfl wr.heap.size _ g rfl (HO1.out.alloc _) w1.heap.size 1 (x2.lo + (q : Int)) rfl (cells1 (by simp [go_sem])) (by have := HGL.out; omega) (by have := HE1.out.size; simp; omega) ?_)
        intro g' cap w6 hown2 hg2 hbel _
        have HE6 := Lib.hid (show Ext wr w6 from Below.trans (HE1.out.alloc _) hbel)
        have e1 : (g ++ [x2.lo + (q : Int)]).length = n + 1 := by simp [HGL.out]
        have HD1 := Lib.hid (show doneTo g (x2, 0) r (q + 1) = doneTo g (x2, 0) r q ++ exts (g ++ [x2.lo + (q : Int)]) r by rw [doneTo_succ]; simp [])
        have HPX := Lib.hid (show doneTo g (x2, 0) r (q + 1) <+: doneTo g (x2, 0) r N from doneTo_pre g (x2, 0) r (by omega))
        have hne : ∀ b o, some (⟨g', 0, none⟩ : Addr) = some ⟨b, o, none⟩ → b ≠ m := fun b o e => by
          injection e with e; injection e with e2 e3; rw [← e2]; have := HBL.out.2.lt; omega
        have H := IH.out (g ++ [x2.lo + (q : Int)]) (some ⟨g', 0, none⟩) cap (pre ++ doneTo g (x2, 0) r q) w6 (by rw [e1]; omega)
          (fun m hm => by
            rcases List.mem_append.1 hm with hm | hm
            · exact HBD.out m hm
            · simp at hm; omega) hne (HSW.out.ext HE6.out) (HLW.out.ext HE6.out)
          (by rw [e1]; have := (show SlI w6 _ _ from Own.sl (enc := encI) (fun _ => rfl) hown2); rw [HGL.out] at this; exact this)
          (HBL.out.2.ext HE6.out) HBL.out.1
          (by
            rw [e1, HR.out, List.append_assoc, ← HD1.out, List.length_append]
            have h1 := HP.out
            rw [List.length_append] at h1
            have h2 := HPX.out.length_le
            omega)
        rw [e1, HR.out, List.append_assoc, ← HD1.out] at H
        rw [HGL.out]
        clear e1 hown2 hg2 hbel hne
        have HH := Lib.hid H
        clear H
        go_wp2_with fail
        refine HH.out.mono ?_
        clear HH
        rintro e w' ⟨⟨rv, rfl, g1, g2, g3⟩⟩
        have HG1 := Lib.hid (grown_trans (grown_ext HGR.out HE6.out) g1)
        have HG2 := Lib.hid g2
        have HG3 := Lib.hid g3
        clear g1 g2 g3
        cases rv with
        | true =>
          go_wp2
          go_ret
          have hf : consB l (pre ++ doneTo g (x2, 0) r N) = false := cons_pre (by
            obtain ⟨z, hz⟩ := HPX.out
            exact ⟨z, by rw [List.append_assoc, hz]⟩) (HG2.out (by simp))
          exact ⟨⟨true, rfl, HG1.out, fun _ => hf, fun h => by (cases h)⟩⟩
        | false =>
          go_wp2
          go_roundg (N - (q + 1))
          case measure => omega
          case rel => exact ⟨q + 1, by omega, by omega, by simp; omega, HG1.out, HG3.out (by simp)⟩
      · have hqe : q = N := by omega
        subst hqe
        have hgt : x2.hi < x2.lo + (q : Int) := by omega
        go_wp2
        go_ret
        exact ⟨⟨false, rfl, HGR.out, fun h => by (cases h), fun _ => HBL.out⟩⟩
end Go.Proofs.YtdlipbobfgdleaaDoor
/- The reference's Before and decided. -/
namespace Go.Proofs.YtdlipbobfgdleaaDoor
open Go.RowKit Go.Shelf Go.Lib
set_option maxRecDepth 100000
set_option linter.unusedSimpArgs false

theorem before_any (l l' : List Int) (v v' : Value) (w : World) (h : SlI w v l) (h' : SlI w v' l') :
    Calls Tryd.prog 64 #[v, v'] w fun e w' => e = .returned (.bool (beforeL l l')) ∧ Ext w w' := by
  have HA := Lib.hid h
  have HB := Lib.hid h'
  obtain ⟨A, n, cp, rfl, hn, hlc, hcm⟩ := h.form
  obtain ⟨A2, n2, cp2, rfl, hn2, hlc2, hcm2⟩ := h'.form
  clear h h'
  go_enter Tryd.func64, Tryd.ntmps64
  by_cases hne : n = n2
  · subst hne
    have HL := Lib.hid (show beforeL l l' = lexL (l.drop 0) (l'.drop 0) by unfold beforeL; rw [if_neg (by have := hn.out; have := hn2.out; omega)]; rfl)
    go_wp2
    go_loopg [5] n (fun gg s wr => ∃ (k : Nat), k ≤ n ∧ n - k ≤ gg ∧ s = .int .i64 k ∧ Aside (beforeL l l' = lexL (l.drop k) (l'.drop k)) ∧ Aside (Ext w wr))
    case atStart => exact ⟨0, by omega, by omega, rfl, HL.out, Ext.refl _⟩
    case round =>
      obtain ⟨k, hk, hg, rfl, LW, EW⟩ := hrel
      by_cases hlt : k < n
      · have hjz : (k : Int) < (n : Int) := by omega
        obtain ⟨bb, off, x, rfl, hx, hb, hcell⟩ := HA.out.at_ hlt
        obtain ⟨bb', off', x', rfl, hx', hb', hcell'⟩ := HB.out.at_ hlt
        have c0 := fun W (h : Ext wr W) => SlI.cell hcell (EW.out.trans h)
        have c1 := fun W (h : Ext wr W) => SlI.cell hcell' (EW.out.trans h)
        have HD := Lib.hid (show beforeL l l' = if x ≠ x' then decide (x < x') else lexL (l.drop (k + 1)) (l'.drop (k + 1)) by rw [LW.out, drop_at hx, drop_at hx']; rfl)
        clear hx hx' hcell hcell'
        by_cases hxx : x = x'
        · subst hxx
          have HD2 := Lib.hid (show beforeL l l' = lexL (l.drop (k + 1)) (l'.drop (k + 1)) by rw [HD.out, if_neg (by simp)])
          go_wp2
          refine wp_region_tame (fun W => Ext wr W) (fun W W' => Ext W W') (by kernel_rfl) 40 rfl (by decide +kernel) (Ext.refl _).drew ?_
          repeat (apply tame_q rfl; (intro ρ W hC hr hD; (obtain ⟨hrc, hrg, hrf, hrs⟩ := hr); (simp [go_sem] at hD); go_simp; first | exact ⟨⟨hC, Ext.refl _⟩, rfl⟩ | exact ⟨⟨hC, RS.refl _⟩, rfl⟩ | exact rfl); simp only [List.nil_append, List.cons_append])
          refine tame_end 40 rfl rfl (fun ρ W hC hr hF => ?_)
          obtain ⟨hrc, hrg, hrf, hrs⟩ := hr
          simp [go_sem] at hF
          apply frame_to
          · go_simp
            exact rfl
          clear hF hrs hrc hrg hrf
          have HC := Lib.hid hC; clear hC
          go_wp2
          go_roundg (n - (k + 1))
          case measure => omega
          case rel => exact ⟨k + 1, by omega, by omega, rfl, HD2.out, EW.out.trans HC.out⟩
        · have HD2 := Lib.hid (show beforeL l l' = decide (x < x') by rw [HD.out, if_pos hxx])
          have hxb : (x != x') = true := by simpa using hxx
          go_wp2
          refine wp_region_tame (fun W => Ext wr W) (fun W W' => Ext W W') (by kernel_rfl) 40 rfl (by decide +kernel) (Ext.refl _).drew ?_
          repeat (apply tame_q rfl; (intro ρ W hC hr hD; (obtain ⟨hrc, hrg, hrf, hrs⟩ := hr); (simp [go_sem] at hD); go_simp; first | exact ⟨⟨hC, Ext.refl _⟩, rfl⟩ | exact ⟨⟨hC, RS.refl _⟩, rfl⟩ | exact rfl); simp only [List.nil_append, List.cons_append])
          refine tame_end 40 rfl rfl (fun ρ W hC hr hF => ?_)
          obtain ⟨hrc, hrg, hrf, hrs⟩ := hr
          simp [go_sem] at hF
          apply frame_to
          · go_simp
            exact rfl
          clear hF hrs hrc hrg hrf
          have d0 := fun W' (h : Ext W W') => c0 W' (hC.trans h)
          have d1 := fun W' (h : Ext W W') => c1 W' (hC.trans h)
          have HC := Lib.hid hC; clear hC c0 c1
          go_wp2
          refine wp_region_tame (fun W' => Ext W W') (fun W W' => Ext W W') (by kernel_rfl) 40 rfl (by decide +kernel) (Ext.refl _).drew ?_
          repeat (apply tame_q rfl; (intro ρ W hC hr hD; (obtain ⟨hrc, hrg, hrf, hrs⟩ := hr); (simp [go_sem] at hD); go_simp; first | exact ⟨⟨hC, Ext.refl _⟩, rfl⟩ | exact ⟨⟨hC, RS.refl _⟩, rfl⟩ | exact rfl); simp only [List.nil_append, List.cons_append])
          refine tame_end 40 rfl rfl (fun ρ W' hC hr hF => ?_)
          obtain ⟨hrc, hrg, hrf, hrs⟩ := hr
          simp [go_sem] at hF
          apply frame_to
          · go_simp
            exact rfl
          clear hF hrs hrc hrg hrf
          have HC2 := Lib.hid hC; clear hC
          go_wp2
          go_ret
          exact ⟨by rw [HD2.out]; rfl, (EW.out.trans HC.out).trans HC2.out⟩
      · have HD := Lib.hid (show beforeL l l' = false by rw [LW.out, List.drop_eq_nil_of_le (by have := hn.out; omega)]; rfl)
        go_wp2
        go_ret
        exact ⟨by rw [HD.out]; rfl, EW.out⟩
  · have HL := Lib.hid (show beforeL l l' = decide (n < n2) by
      unfold beforeL
      have h1 := hn.out; have h2 := hn2.out
      rw [if_pos (by omega), ← h1, ← h2])
    have hnb : ((n : Int) != (n2 : Int)) = true := by simp; omega
    go_wp2
    go_ret
    exact ⟨by rw [HL.out]; rfl, Ext.refl _⟩
end Go.Proofs.YtdlipbobfgdleaaDoor
/- The reference's decided and Decide. -/
namespace Go.Proofs.YtdlipbobfgdleaaDoor
open Go.RowKit Go.Shelf Go.Lib
set_option maxRecDepth 100000
set_option linter.unusedSimpArgs false

theorem sl_max {W : World} {A : Option Addr} {n c : Nat} {l : List Int} (h : SlI W (.slice A n c) l) : (n : Int) ≤ 9223372036854775807 := by
  obtain ⟨A', n', c', h1, -, h2, h3⟩ := h.form
  injection h1 with _ h1 h4
  omega
theorem decR_cons {sp : List Span} {i : Nat} {x : Span} (hx : sp[i]? = some x) (r : List Int) : decR sp ((i : Int) :: r) = (rangeS x).all fun n => decR (sp.set i ⟨n, n⟩) r := by
  rw [decR]
  simp only [Int.toNat_natCast, hx]
theorem all_rangeS {x : Span} {f : Int → Bool} (h : ∀ q : Nat, q < (x.hi - x.lo + 1).toNat → f (x.lo + (q : Int)) = true) : (rangeS x).all f = true := by
  rw [List.all_eq_true]
  intro n hn
  have hn := (rangeS_mem x n).1 hn
  have := h (n - x.lo).toNat (by omega)
  rwa [show x.lo + (((n - x.lo).toNat : Nat) : Int) = n by omega] at this
theorem not_all_rangeS {x : Span} {f : Int → Bool} {q : Nat} (hq : q < (x.hi - x.lo + 1).toNat) (h : f (x.lo + (q : Int)) = false) : (rangeS x).all f = false := by
  cases ha : (rangeS x).all f with
  | false => rfl
  | true =>
    rw [List.all_eq_true] at ha
    have := ha (x.lo + (q : Int)) ((rangeS_mem x _).2 (by omega))
    rw [this] at h
    cases h

set_option maxHeartbeats 2000000 in
theorem decided_any {l : List Int} {A : Option Addr} {n c : Nat} : ∀ (k fr : Nat) (sp : List Span) (bb off cs : Nat) (w : World), fr + k = l.length → sp.length ≤ 5 → 0 < sp.length → (∀ x ∈ sp, 1 ≤ x.lo ∧ x.lo ≤ 1000 ∧ x.hi ≤ 9) →
    SlS w (.slice (some ⟨bb, off, none⟩) sp.length cs) sp → SlI w (.slice A n c) l → (∀ i ∈ l, 0 ≤ i ∧ i < (sp.length : Int)) →
    Calls Tryd.prog 104 #[.slice (some ⟨bb, off, none⟩) sp.length cs, .slice A n c, .int .i64 (fr : Int)] w fun e w' => e = .returned (.bool (decR sp (l.drop fr))) ∧ Ext w w' := by
  intro k
  induction k with
  | zero =>
    intro fr sp bb off cs w hfr h5 h0 hbd hs hl hb
    have hnl : n = l.length := by obtain ⟨_, _, h, _⟩ := hl; injection h
    have hfn : (fr : Int) = (n : Int) := by omega
    have HM := Lib.hid (many_any w (by omega) h0 hbd hs)
    have HD := Lib.hid (show decR sp (l.drop fr) = ((rk S4.none (exts [] (zOf sp))).num == 1) by rw [List.drop_eq_nil_of_le (by omega), decR])
    rw [hfn]
    clear hs hl hb hbd hnl hfr hfn
    go_enter Tryd.func104, Tryd.ntmps104
    go_wp2_with fail
    refine HM.out.mono ?_
    rintro e w1 ⟨rfl, hE⟩
    have HE := Lib.hid hE
    generalize rk S4.none (exts [] (zOf sp)) = s at *
    clear hE
    dsimp only [flagsV]
    go_wp2
    go_ret
    exact ⟨ret_bool (show ((s.num : Int) == 1) = _ by rw [HD.out, Bool.eq_iff_iff]; simp; omega), HE.out.alloc _⟩
  | succ k ih =>
    intro fr sp bb off cs w hfr h5 h0 hbd hs hl hb
    have hnl : n = l.length := by obtain ⟨_, _, h, _⟩ := hl; injection h
    have hfn : fr < n := by omega
    have hfz : (fr : Int) < (n : Int) := by omega
    have hne : ¬ ((fr : Int) = (n : Int)) := by omega
    obtain ⟨bl, ol, i, rfl, hi, hbl, hic⟩ := hl.at_ hfn
    obtain ⟨hi0, hi1⟩ := hb i (List.mem_of_getElem? hi)
    obtain ⟨i', rfl⟩ : ∃ i' : Nat, i = (i' : Int) := ⟨i.toNat, by omega⟩
    have hin : i' < sp.length := by omega
    obtain ⟨b', o', x, e1, hx, hbx, hxc⟩ := hs.at_ hin
    injection e1 with e1
    injection e1 with e1 e2
    subst e1 e2
    have HD := Lib.hid (show decR sp (l.drop fr) = (rangeS x).all fun m => decR (sp.set i' ⟨m, m⟩) (l.drop (fr + 1)) by rw [drop_at hi, decR_cons hx])
    have hxb := hbd x (List.mem_of_getElem? hx)
    have HS := Lib.hid hs; have HL := Lib.hid hl; have HB := Lib.hid hb; have HBD := Lib.hid hbd; have IH := Lib.hid ih; have HIC := Lib.hid hic; have HXC := Lib.hid hxc
    have HFR := Lib.hid hfr; have H5 := Lib.hid h5; have H0 := Lib.hid h0
    have c0 := SlI.cell hic (Ext.refl w)
    obtain ⟨c1, c2⟩ := SlS.cells hxc (Ext.refl w)
    generalize hN : (x.hi - x.lo + 1).toNat = N at *
    clear hs hl hb hbd ih hic hxc hx hi hfr h5 h0 hnl
    go_enter Tryd.func104, Tryd.ntmps104
    go_wp2
    clear c0 c1 c2
    go_loopg [9] N (fun gg s9 wr => ∃ q : Nat, q ≤ N ∧ N - q ≤ gg ∧ s9 = .int .i64 (x.lo + (q : Int)) ∧ Aside (∀ q' : Nat, q' < q → decR (sp.set i' ⟨x.lo + (q' : Int), x.lo + (q' : Int)⟩) (l.drop (fr + 1)) = true) ∧ Aside (Ext w wr))
    case atStart => exact ⟨0, by omega, by omega, by simp, fun q' h => absurd h (by omega), Ext.refl _⟩
    case round =>
      obtain ⟨q, hq, hgg, rfl, HQ, EX⟩ := hrel
      have c0 := SlI.cell HIC.out EX.out
      obtain ⟨c1, c2⟩ := SlS.cells HXC.out EX.out
      by_cases hqN : q < N
      · have hle : x.lo + (q : Int) ≤ x.hi := by omega
        go_wp2_with fail
        refine (pinned_any i' (x.lo + (q : Int)) _ _ hin (by have := H5.out; omega) (HS.out.ext EX.out)).mono ?_
        rintro e w5 ⟨b', o', c', rfl, hsl5, hE5⟩
        have EX5 := Lib.hid (EX.out.trans hE5)
        have hlen : (sp.set i' ⟨x.lo + (q : Int), x.lo + (q : Int)⟩).length = sp.length := List.length_set
        have H := IH.out (fr + 1) (sp.set i' ⟨x.lo + (q : Int), x.lo + (q : Int)⟩) b' o' c' w5 (by have := HFR.out; omega) (by rw [hlen]; exact H5.out) (by rw [hlen]; exact H0.out) (fun y hy => by
          rcases List.mem_or_eq_of_mem_set hy with hy | rfl
          · exact HBD.out y hy
          · dsimp only; omega) (by rw [hlen]; exact hsl5) (HL.out.ext EX5.out) (by rw [hlen]; exact HB.out)
        rw [hlen, show (((fr + 1 : Nat) : Int)) = (fr : Int) + 1 by omega] at H
        have HH := Lib.hid H; clear H hsl5 hE5 c0 c1 c2 hlen
        have hfb := sl_max HL.out
        go_wp2_with fail
        refine HH.out.mono ?_
        rintro e w6 ⟨rfl, hE6⟩
        have EX6 := Lib.hid (EX5.out.trans hE6)
        clear HH hE6
        cases hdq : decR (sp.set i' ⟨x.lo + (q : Int), x.lo + (q : Int)⟩) (l.drop (fr + 1)) with
        | true =>
          have HQ2 := Lib.hid (show ∀ q' : Nat, q' < q + 1 → decR (sp.set i' ⟨x.lo + (q' : Int), x.lo + (q' : Int)⟩) (l.drop (fr + 1)) = true from fun q' h => by
            by_cases he : q' = q
            · rw [he]; exact hdq
            · exact HQ.out q' (by omega))
          go_wp2
          go_roundg (N - (q + 1))
          case measure => omega
          case rel => exact ⟨q + 1, by omega, by omega, by simp; omega, HQ2.out, EX6.out⟩
        | false =>
          have HF := Lib.hid (show decR sp (l.drop fr) = false by rw [HD.out]; exact not_all_rangeS (q := q) (by omega) hdq)
          go_wp2
          go_ret
          exact ⟨by rw [HF.out]; rfl, EX6.out⟩
      · have hgt : x.hi < x.lo + (q : Int) := by omega
        have HF := Lib.hid (show decR sp (l.drop fr) = true by rw [HD.out]; exact all_rangeS fun q' h => HQ.out q' (by omega))
        go_wp2
        go_ret
        exact ⟨by rw [HF.out]; rfl, EX.out⟩

def setTo (j i : Nat) : List Int := ((List.range i).filter fun i => j / 2 ^ i % 2 == 1).map fun (i : Nat) => (i : Int)
theorem setTo_succ (j i : Nat) : setTo j (i + 1) = setTo j i ++ (if j / 2 ^ i % 2 == 1 then [(i : Int)] else []) := by
  unfold setTo
  rw [List.range_succ, List.filter_append, List.map_append]
  congr 1
  simp only [List.filter_cons, List.filter_nil]
  split <;> rfl
theorem setTo_len (j i : Nat) : (setTo j i).length ≤ i := by
  unfold setTo
  rw [List.length_map]
  refine Nat.le_trans (List.length_filter_le _ _) ?_
  simp
theorem setTo_mem {j i : Nat} {x : Int} (h : x ∈ setTo j i) : 0 ≤ x ∧ x < (i : Int) := by
  unfold setTo at h
  simp only [List.mem_map, List.mem_filter, List.mem_range] at h
  obtain ⟨k, ⟨hk, _⟩, rfl⟩ := h
  omega
theorem pow_wrap {n : Nat} (h : n ≤ 5) : wrap64 ((2 : Int) ^ n) = ((2 ^ n : Nat) : Int) ∧ 2 ^ n ≤ 32 := by
  obtain rfl | rfl | rfl | rfl | rfl | rfl : n = 0 ∨ n = 1 ∨ n = 2 ∨ n = 3 ∨ n = 4 ∨ n = 5 := by omega
  all_goals exact ⟨by decide +kernel, by decide⟩
theorem bit_and : ∀ j : Nat, j < 32 → ∀ i : Nat, i < 5 → bits BinOp.and IntKind.i64 ((j : Int) / (2 : Int) ^ i) 1 = ((j / 2 ^ i % 2 : Nat) : Int) := by decide +kernel
def rdecB (b : Bale) : List Int := if askE b true 0 = 0 then (pickL (decR (spans b)) (setsL (spans b).length)).1 else []

set_option maxHeartbeats 4000000 in
theorem refDecide_any (b : Bale) (dv wv : Value) (w : World) (hd : SlD w dv b.draws) (hw : SlW w wv b.weighs) :
    Calls Tryd.prog 44 #[valB b dv wv] w fun e w' => ∃ v, e = .returned (.tuple #[v, .int .i64 (askE b true 0)]) ∧ SlI w' v (rdecB b) ∧ Ext w w' := by
  have HD := Lib.hid hd
  have HW := Lib.hid hw
  obtain ⟨A, n, cp, rfl, hn, hlc, hcm⟩ := hd.form
  obtain ⟨A2, n2, cp2, rfl, hn2, hlc2, hcm2⟩ := hw.form
  clear hd hw
  go_enter Tryd.func44, Tryd.ntmps44
  go_wp2_with fail
  refine (refAsked_any b _ _ _ (HD.out.ext (Ext.al _ _)) (HW.out.ext (Ext.al _ _))).mono ?_
  rintro e w2 ⟨sv, lv, rfl, hsl, hE2⟩
  have HE2 := Lib.hid ((Ext.al w _).trans hE2)
  clear hE2
  by_cases hz9 : askE b true 0 = 0
  · obtain ⟨hs, hl⟩ := hsl hz9
    obtain ⟨h1, h3⟩ : valid b = true ∧ okB b = true := by
      unfold askE at hz9
      split at hz9
      · simp at hz9; exact ⟨by assumption, hz9⟩
      · cases hz9
    have hb5 := valid_bds h1
    obtain ⟨Al, nl, cl, rfl, hnl, hlc', hlm⟩ := hl.form
    have hln := spans_len b
    have hl0 : 0 < (spans b).length := by have := hb5.l1; omega
    have hl5 : (spans b).length ≤ 5 := by have := hb5.l5; omega
    obtain ⟨As, cs, rfl, hsc, hsm, hcx⟩ := id hs
    obtain ⟨bs, os, rfl, hbs, -⟩ := hcx hl0
    have HBD := Lib.hid (show ∀ x ∈ spans b, 1 ≤ x.lo ∧ x.lo ≤ 9 ∧ x.hi ≤ 9 ∧ 1 ≤ x.hi from fun x hx => spans_bd h1 x hx)
    have HK := Lib.hid (show rdecB b = (pickL (decR (spans b)) (setsL (spans b).length)).1 by unfold rdecB; rw [if_pos hz9])
    have HZ := Lib.hid hz9
    have HS := Lib.hid hs
    have HL5 := Lib.hid hl5; have HL0 := Lib.hid hl0
    generalize hsp : spans b = sp at *
    rw [hz9]
    clear hz9 hs hl hsl hsc hsm hcx hb5 h1 h3 hsp hln hl0 hbs
    obtain ⟨hP, hP2⟩ := pow_wrap hl5
    generalize hMM : 2 ^ sp.length = M at hP hP2
    have HM := Lib.hid hMM; clear hMM
    go_wp2
    go_loopg [7, 8, 9, 10, 11] M (fun gg s7 s8 s9 _ _ wr => ∃ (j : Nat), j ≤ M ∧ M - j ≤ gg ∧ s9 = .int .i64 (j : Int) ∧ s8 = .bool (pickL (decR sp) ((List.range j).map (setOf sp.length))).2 ∧ Aside (SlI wr s7 (pickL (decR sp) ((List.range j).map (setOf sp.length))).1) ∧ Aside (Ext w2 wr))
    case atStart => exact ⟨0, by omega, by omega, rfl, rfl, Sl.nil _, Ext.refl _⟩
    case round =>
      obtain ⟨j, hj, hgg, rfl, rfl, SV, EX⟩ := hrel
      by_cases hjn : j < M
      · have hjz : (j : Int) < (M : Int) := by omega
        obtain ⟨wo, hwo⟩ : ∃ wo : World, wo = wr := ⟨_, rfl⟩
        subst hwo
        go_wp2_with fail
        simp only [hP]
        go_loopg [10, 11] sp.length (fun gg s10 s11 wr => ∃ (i : Nat), i ≤ sp.length ∧ sp.length - i ≤ gg ∧ s11 = .int .i64 (i : Int) ∧ Aside (Own encI 3 1 wr wo.heap.size s10 (setTo j i)) ∧ Aside (Ext wo wr))
        case atStart => exact ⟨0, by omega, by omega, rfl, Own.nil _ _, Ext.refl _⟩
        case round =>
          obtain ⟨i, hi, hgi, rfl, OV, EX2⟩ := hrel
          by_cases hin : i < sp.length
          · have hiz : (i : Int) < (sp.length : Int) := by omega
            have hba := bit_and j (by omega) i (by omega)
            cases hbit : (j / 2 ^ i % 2 == 1) with
            | true =>
              have hb1 : bits BinOp.and IntKind.i64 ((j : Int) / (2 : Int) ^ i) 1 = 1 := by rw [hba]; simp at hbit; omega
              have HTS := Lib.hid (show setTo j (i + 1) = setTo j i ++ [(i : Int)] by rw [setTo_succ, hbit]; rfl)
              have HTL := Lib.hid (show (setTo j i).length < 100000000000 by have := setTo_len j i; omega)
              clear hba hbit
              go_wp2_with (at_builtin; refine wpList_app encI 56 3 1 _ 8 Tryd.underlying56 info3x rfl (by decide) (by decide) (fun _ => rfl) encI_one rfl (.tmp 39) (.tmp 41) rfl wo.heap.size _ (setTo j i) rfl (OV.out.alloc _) wr.heap.size 1 (i : Int) rfl (cells1 (by simp [go_sem])) HTL.out (by have := EX2.out.size; simp; omega) ?_)
              intro g cap w' hown hg2 hbel _
              have HO := Lib.hid hown
              have HE := Lib.hid (show Ext wo w' from Below.trans (EX2.out.alloc _) hbel)
              clear hown hg2 hbel
              go_wp2
              go_roundg (sp.length - (i + 1))
              case measure => omega
              case rel => exact ⟨i + 1, by omega, by omega, by simp, by rw [HTS.out]; exact HO.out, HE.out⟩
            | false =>
              have hb1 : bits BinOp.and IntKind.i64 ((j : Int) / (2 : Int) ^ i) 1 = 0 := by rw [hba]; simp at hbit; omega
              have HTS := Lib.hid (show setTo j (i + 1) = setTo j i by rw [setTo_succ, hbit]; simp)
              clear hba hbit
              go_wp2
              go_roundg (sp.length - (i + 1))
              case measure => omega
              case rel => exact ⟨i + 1, by omega, by omega, by simp, by rw [HTS.out]; exact OV.out, EX2.out⟩
          · have hie : i = sp.length := by omega
            subst hie
            have HPS := Lib.hid (show pickL (decR sp) ((List.range (j + 1)).map (setOf sp.length)) = pickStep (decR sp) (pickL (decR sp) ((List.range j).map (setOf sp.length))) (setTo j sp.length) by
              rw [List.range_succ, List.map_append]; exact pickL_snoc _ _ _)
            generalize pickL (decR sp) ((List.range j).map (setOf sp.length)) = ps at *
            obtain ⟨best, found⟩ := ps
            have hsl : SlI wr u10 (setTo j sp.length) := Own.sl (enc := encI) (fun _ => rfl) OV.out
            obtain ⟨Av, nv, cv, rfl, hnv, -, -⟩ := hsl.form
            have HSL := Lib.hid hsl
            have HBE0 := Lib.hid (show SlI wr u7 best from SV.out.ext EX2.out)
            have EXQ := Lib.hid (EX.out.trans EX2.out)
            clear hsl OV hnv
            dsimp only
            cases found with
            | false =>
              go_wp2_with fail
              refine (decided_any (l := setTo j sp.length) (setTo j sp.length).length 0 sp bs os cs _ (by omega) HL5.out HL0.out (fun y hy => by have := HBD.out y hy; omega) (HS.out.ext EXQ.out) HSL.out (fun i hi => setTo_mem hi)).mono ?_
              rintro e w5 ⟨rfl, hE5⟩
              have EXX := Lib.hid (EXQ.out.trans hE5)
              have HSV := Lib.hid (HSL.out.ext hE5); have HBE := Lib.hid (HBE0.out.ext hE5)
              clear hE5
              rw [List.drop_zero]
              cases hdq : decR sp (setTo j sp.length) with
              | true =>
                have HST := Lib.hid (show pickL (decR sp) ((List.range (j + 1)).map (setOf sp.length)) = (setTo j sp.length, true) by
                  rw [HPS.out]; unfold pickStep; rw [if_pos (by rw [hdq]; simp)])
                go_wp2
                go_roundg (M - (j + 1))
                case measure => omega
                case rel => exact ⟨j + 1, by omega, by omega, by simp, by rw [HST.out], by rw [HST.out]; exact HSV.out, EXX.out⟩
              | false =>
                have HST := Lib.hid (show pickL (decR sp) ((List.range (j + 1)).map (setOf sp.length)) = (best, false) by
                  rw [HPS.out]; unfold pickStep; rw [if_neg (by rw [hdq]; simp)])
                go_wp2
                go_roundg (M - (j + 1))
                case measure => omega
                case rel => exact ⟨j + 1, by omega, by omega, by simp, by rw [HST.out], by rw [HST.out]; exact HBE.out, EXX.out⟩
            | true =>
              go_wp2_with fail
              refine (before_any (setTo j sp.length) best _ _ _ HSL.out HBE0.out).mono ?_
              rintro e w4 ⟨rfl, hE4⟩
              have EX4 := Lib.hid (EXQ.out.trans hE4)
              have HSL4 := Lib.hid (HSL.out.ext hE4); have HBE4 := Lib.hid (HBE0.out.ext hE4)
              clear hE4
              cases hbv : beforeL (setTo j sp.length) best with
              | false =>
                have HST := Lib.hid (show pickL (decR sp) ((List.range (j + 1)).map (setOf sp.length)) = (best, true) by
                  rw [HPS.out]; unfold pickStep; rw [if_neg (by rw [hbv]; simp)])
                go_wp2
                go_roundg (M - (j + 1))
                case measure => omega
                case rel => exact ⟨j + 1, by omega, by omega, by simp, by rw [HST.out], by rw [HST.out]; exact HBE4.out, EX4.out⟩
              | true =>
                go_wp2_with fail
                refine (decided_any (l := setTo j sp.length) (setTo j sp.length).length 0 sp bs os cs _ (by omega) HL5.out HL0.out (fun y hy => by have := HBD.out y hy; omega) (HS.out.ext EX4.out) HSL4.out (fun i hi => setTo_mem hi)).mono ?_
                rintro e w5 ⟨rfl, hE5⟩
                have EXX := Lib.hid (EX4.out.trans hE5)
                have HSV := Lib.hid (HSL4.out.ext hE5); have HBE := Lib.hid (HBE4.out.ext hE5)
                clear hE5
                rw [List.drop_zero]
                cases hdq : decR sp (setTo j sp.length) with
                | true =>
                  have HST := Lib.hid (show pickL (decR sp) ((List.range (j + 1)).map (setOf sp.length)) = (setTo j sp.length, true) by
                    rw [HPS.out]; unfold pickStep; rw [if_pos (by rw [hdq]; simp [hbv])])
                  go_wp2
                  go_roundg (M - (j + 1))
                  case measure => omega
                  case rel => exact ⟨j + 1, by omega, by omega, by simp, by rw [HST.out], by rw [HST.out]; exact HSV.out, EXX.out⟩
                | false =>
                  have HST := Lib.hid (show pickL (decR sp) ((List.range (j + 1)).map (setOf sp.length)) = (best, true) by
                    rw [HPS.out]; unfold pickStep; rw [if_neg (by rw [hdq]; simp)])
                  go_wp2
                  go_roundg (M - (j + 1))
                  case measure => omega
                  case rel => exact ⟨j + 1, by omega, by omega, by simp, by rw [HST.out], by rw [HST.out]; exact HBE.out, EXX.out⟩
      · have HQ := Lib.hid (show rdecB b = (pickL (decR sp) ((List.range j).map (setOf sp.length))).1 by rw [HK.out]; unfold setsL; rw [HM.out, show j = M by omega])
        go_wp2
        refine bodyPost_ret (v := .tuple #[u7, .int .i64 0]) (by simp [results, Tryd.results44, go_sem]) rfl ?_
        exact ⟨_, by rw [HZ.out], by rw [HQ.out]; exact SV.out, HE2.out.trans EX.out⟩
  · have HK := Lib.hid (show rdecB b = [] by unfold rdecB; rw [if_neg hz9])
    generalize hE9 : askE b true 0 = E at hz9
    have HE9 := Lib.hid hE9; clear hE9 hsl
    go_wp2
    refine bodyPost_ret (v := .tuple #[.slice none 0 0, .int .i64 E]) (by simp [results, Tryd.results44, go_sem]) rfl ?_
    exact ⟨_, by rw [HE9.out], by rw [HK.out]; exact Sl.nil _, HE2.out⟩
end Go.Proofs.YtdlipbobfgdleaaDoor
