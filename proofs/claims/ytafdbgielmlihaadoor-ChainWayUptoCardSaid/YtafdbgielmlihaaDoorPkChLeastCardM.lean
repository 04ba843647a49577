/- The two closures of market.closed, and first at numbers. -/
import Derived.Test.YtafdbgielmlihaaDoorPkChLeastCardF
import Derived.Test.YtafdbgielmlihaaDoorPkChLeastCardL
import Derived.Test.YtafdbgielmlihaaDoorPkChLeastCardD
import Derived.Laws.ResultCell
namespace Go.Proofs.YtafdbgielmlihaaDoor
open Go.RowKit Go.Shelf Go.Lib
set_option maxRecDepth 100000
set_option linter.unusedSimpArgs false
attribute [local go_sem] Oper.semAt_some

/-! What is known of a house, in memory: 17 cells. -/
def enc12 (a : List Int) : List Value := (List.range 12).map fun i => .int .i64 (a[i]?.getD 0)
theorem enc12_len (a : List Int) : (enc12 a).length = 12 := by simp [enc12]
theorem enc12_eq {a : List Int} (h : a.length = 12) : enc12 a = a.map fun x => Value.int .i64 x := by
  obtain ⟨a0, a1, a2, a3, a4, a5, a6, a7, a8, a9, a10, a11, rfl⟩ := twelve h
  rfl
def encR (r : Rch) : List Value := .bool r.is :: (enc12 r.cost ++ [.int .i64 r.by'.src, .int .i64 r.by'.dst, .int .i64 r.by'.sale, .int .i64 r.by'.more])
theorem encR_len (r : Rch) : (encR r).length = 17 := by simp [encR, enc12_len]
abbrev RowR (W : World) (g : Nat) (R : List Rch) : Prop := RowE encR 154 W g R
theorem RowR.is {W : World} {g k : Nat} {R : List Rch} {r : Rch} (h : RowR W g R) (hr : R[k]? = some r) : W.cell? ⟨g, k * 17, none⟩ = some (.bool r.is) := by
  simpa using RowE.cell encR_len h hr 0 _ rfl
theorem RowR.cost {W : World} {g k : Nat} {R : List Rch} {r : Rch} (h : RowR W g R) (hr : R[k]? = some r) (hl : r.cost.length = 12) {j : Nat} {x : Int} (hx : r.cost[j]? = some x) : W.cell? ⟨g, k * 17 + 1 + j, none⟩ = some (.int .i64 x) := by
  have hj : j < 12 := by have := (List.getElem?_eq_some_iff.1 hx).1; omega
  have := RowE.cell encR_len h hr (j + 1) (.int .i64 x) (by
    unfold encR
    rw [List.getElem?_cons_succ, List.getElem?_append_left (by rw [enc12_len]; exact hj), enc12_eq hl, List.getElem?_map, hx]; rfl)
  rw [show k * 17 + 1 + j = k * 17 + (j + 1) by omega]; exact this
theorem RowR.by' {W : World} {g k : Nat} {R : List Rch} {r : Rch} (h : RowR W g R) (hr : R[k]? = some r) :
    W.cell? ⟨g, k * 17 + 13, none⟩ = some (.int .i64 r.by'.src) ∧ W.cell? ⟨g, k * 17 + 14, none⟩ = some (.int .i64 r.by'.dst) ∧ W.cell? ⟨g, k * 17 + 15, none⟩ = some (.int .i64 r.by'.sale) ∧ W.cell? ⟨g, k * 17 + 16, none⟩ = some (.int .i64 r.by'.more) := by
  have key : ∀ (i : Nat) (v : Value), [Value.int .i64 r.by'.src, .int .i64 r.by'.dst, .int .i64 r.by'.sale, .int .i64 r.by'.more][i]? = some v → W.cell? ⟨g, k * 17 + (13 + i), none⟩ = some v := fun i v hv => RowE.cell encR_len h hr (13 + i) v (by
    unfold encR
    rw [show 13 + i = (12 + i) + 1 by omega, List.getElem?_cons_succ, List.getElem?_append_right (by rw [enc12_len]; omega), enc12_len, show 12 + i - 12 = i by omega]; exact hv)
  exact ⟨key 0 _ rfl, key 1 _ rfl, key 2 _ rfl, key 3 _ rfl⟩
theorem RowR.sl {W : World} {g k : Nat} {R : List Rch} {r : Rch} (h : RowR W g R) (hr : R[k]? = some r) (hl : r.cost.length = 12) : SlI W (.slice (some ⟨g, k * 17 + 1, none⟩) 12 12) r.cost := by
  refine ⟨_, 12, by rw [hl], by omega, by decide, fun _ => ⟨g, k * 17 + 1, rfl, RowE.lt h, fun j x hx i u hu => ?_⟩⟩
  match i, hu with
  | 0, hu =>
    simp at hu; subst hu
    simpa using RowR.cost h hr hl hx

/-- What the closures of closed read: the boxes of left and l, their rows. -/
structure LR (bl br gl gr n : Nat) (left : List Int) (R : List Rch) (W : World) : Prop where
  l : W.cell? ⟨bl, 0, none⟩ = some (.slice (some ⟨gl, 0, none⟩) n n)
  r : W.cell? ⟨br, 0, none⟩ = some (.slice (some ⟨gr, 0, none⟩) n n)
  lr : RowI W gl left
  rr : RowR W gr R
theorem LR.ext {bl br gl gr n : Nat} {left : List Int} {R : List Rch} {W W' : World} (h : LR bl br gl gr n left R W) (e : Ext W W') : LR bl br gl gr n left R W' := ⟨e.cell1 h.l, e.cell1 h.r, h.lr.ext e, h.rr.ext e⟩
theorem LR.keep {bl br gl gr n n₀ : Nat} {X : Nat → Prop} {left : List Int} {R : List Rch} {W W' : World} (h : LR bl br gl gr n left R W) (k : Keep n₀ X W W') (x1 : ¬ X bl) (x2 : ¬ X br) (x3 : ¬ X gl) (x4 : ¬ X gr) : LR bl br gl gr n left R W' :=
  ⟨k.cell x1 h.l, k.cell x2 h.r, Blk.keep h.lr k x3, Blk.keep h.rr k x4⟩

def cand (left : List Int) (R : List Rch) (i : Nat) : Bool := match left[i]?, R[i]? with
  | some n, some r => decide (0 < n) && r.is
  | _, _ => false
def candTo (left : List Int) (R : List Rch) (k : Nat) : List Int := ((List.range k).filter (cand left R)).map fun (i : Nat) => (i : Int)
theorem candTo_succ (left : List Int) (R : List Rch) (k : Nat) : candTo left R (k + 1) = candTo left R k ++ (if cand left R k then [(k : Int)] else []) := by
  unfold candTo
  rw [List.range_succ, List.filter_append, List.map_append]
  congr 1
  by_cases h : cand left R k = true
  · simp [h]
  · simp [h]
theorem candTo_pre (left : List Int) (R : List Rch) : ∀ {k m : Nat}, k ≤ m → candTo left R k <+: candTo left R m := by
  intro k m h
  induction m with
  | zero => have : k = 0 := by omega
            subst this; exact List.prefix_refl _
  | succ m ih =>
    by_cases hk : k = m + 1
    · rw [hk]; exact List.prefix_refl _
    · exact (ih (by omega)).trans (by rw [candTo_succ]; exact List.prefix_append _ _)
theorem candTo_mem {left : List Int} {R : List Rch} {k : Nat} {x : Int} (h : x ∈ candTo left R k) : ∃ i : Nat, x = i ∧ i < k ∧ ∃ n r, left[i]? = some n ∧ R[i]? = some r ∧ 0 < n ∧ r.is = true := by
  unfold candTo at h
  obtain ⟨i, hi, rfl⟩ := List.mem_map.1 h
  obtain ⟨h1, h2⟩ := List.mem_filter.1 hi
  refine ⟨i, rfl, by simpa using h1, ?_⟩
  unfold cand at h2
  split at h2
  · rename_i n r e1 e2
    simp at h2
    exact ⟨n, r, e1, e2, h2.1, h2.2⟩
  · cases h2

theorem closed2_any {bl br gl gr n : Nat} {left : List Int} {R : List Rch} {i j : Nat} {a b : Rch} (w : World) (h : LR bl br gl gr n left R w) (hR : R.length = n) (hi : R[i]? = some a) (hj : R[j]? = some b) (ha : a.cost.length = 12) (hb : b.cost.length = 12) :
    Calls Tryd.prog 111 #[.int .i64 (i : Int), .int .i64 (j : Int), .pointer (some ⟨br, 0, none⟩)] w fun e w' => e = .returned (.int .i64 (cmpL a.cost b.cost)) ∧ Ext w w' := by
  have i1 : i < n := by have := (List.getElem?_eq_some_iff.1 hi).1; omega
  have j1 : j < n := by have := (List.getElem?_eq_some_iff.1 hj).1; omega
  have i2 : (i : Int) < (n : Int) := by omega
  have j2 : (j : Int) < (n : Int) := by omega
  have HL := Lib.hid h; have HI := Lib.hid hi; have HJ := Lib.hid hj; have HA := Lib.hid ha; have HB := Lib.hid hb
  have m0 := fun W (e : Ext w W) => e.cell1 HL.out.r
  clear h hR hi hj ha hb
  go_enter Tryd.func111, Tryd.ntmps111
  go_wp2
  refine wp_region_tame (fun W => Ext w W) (fun W W' => Ext W W') (by kernel_rfl) 17 rfl (by decide +kernel) (Ext.refl _).drew ?_
  repeat (apply tame_q rfl; (intro ρ W hC hr hD; (obtain ⟨hrc, hrg, hrf, hrs⟩ := hr); (simp [go_sem] at hD); go_simp; first | exact ⟨⟨hC, Ext.refl _⟩, rfl⟩ | exact ⟨⟨hC, RS.refl _⟩, rfl⟩ | exact rfl); simp only [List.nil_append, List.cons_append])
  apply tame_q rfl
  · intro ρ W hC hr hD
    obtain ⟨hrc, hrg, hrf, hrs⟩ := hr
    simp [go_sem] at hD
    go_simp
    refine (cmpL_any a.cost b.cost _ _ W (RowR.sl (HL.out.rr.ext hC) HI.out HA.out) (RowR.sl (HL.out.rr.ext hC) HJ.out HB.out) (by rw [HA.out, HB.out])).mono ?_
    rintro e w' ⟨rfl, hE⟩
    exact ⟨_, rfl, ⟨hC.trans hE, hE⟩, rfl⟩
  simp only [List.nil_append, List.cons_append]
  repeat (apply tame_q rfl; (intro ρ W hC hr hD; (obtain ⟨hrc, hrg, hrf, hrs⟩ := hr); (simp [go_sem] at hD); go_simp; first | exact ⟨⟨hC, Ext.refl _⟩, rfl⟩ | exact ⟨⟨hC, RS.refl _⟩, rfl⟩ | exact rfl); simp only [List.nil_append, List.cons_append])
  refine tame_end 17 rfl rfl (fun ρ W hC hr hF => ?_)
  obtain ⟨hrc, hrg, hrf, hrs⟩ := hr
  simp [go_sem] at hF
  apply frame_to
  · go_simp
    exact rfl
  clear hF hrs hrc hrg hrf
  have E2 := Lib.hid hC; clear hC m0
  go_wp2
  go_ret
  exact ⟨rfl, E2.out⟩

set_option maxHeartbeats 2000000 in
theorem closed1_seqs {bl br gl gr n n₀ : Nat} {X : Nat → Prop} {left : List Int} {R : List Rch} {w : World} (hn : n ≤ 1000) (hl : left.length = n) (hR : R.length = n) (x1 : ¬ X bl) (x2 : ¬ X br) (x3 : ¬ X gl) (x4 : ¬ X gr) (hM : LR bl br gl gr n left R w) :
    Seqs Tryd.prog 110 #[.pointer (some ⟨bl, 0, none⟩), .pointer (some ⟨br, 0, none⟩)] n₀ X (fun (x : Int) v _ => v = .int .i64 x) (candTo left R n) w := by
  intro l J Jx W0 hE hJ hJx hY h0
  have HL := Lib.hid hl; have HR := Lib.hid hR; have HM := Lib.hid (hM.ext hE); have HY := Lib.hid hY; have HJ := Lib.hid hJ; have HJX := Lib.hid hJx; have H0 := Lib.hid h0
  clear hl hR hM hY hJ hJx h0 hE
  have b0 := HM.out.l
  go_enter Tryd.func110, Tryd.ntmps110
  go_wp2
  clear b0
  go_loopg [8] n (fun gg s wr => ∃ kk : Nat, kk ≤ n ∧ n - kk ≤ gg ∧ s = .int .i64 kk ∧ Aside (J (candTo left R kk) wr) ∧ Aside (Keep n₀ X W0 wr))
  case atStart => exact ⟨0, Nat.zero_le _, by omega, rfl, by show J _ _; simpa [candTo] using H0.out, Keep.refl _⟩
  case round =>
    obtain ⟨kk, hkk, hg, rfl, HJK, HK⟩ := hrel
    have MK := Lib.hid (HM.out.keep HK.out x1 x2 x3 x4)
    by_cases hlt : kk < n
    · have hltz : (kk : Int) < (n : Int) := by omega
      obtain ⟨y, hy⟩ : ∃ y, left[kk]? = some y := ⟨_, List.getElem?_eq_getElem (by have := HL.out; omega)⟩
      obtain ⟨r, hr⟩ : ∃ r, R[kk]? = some r := ⟨_, List.getElem?_eq_getElem (by have := HR.out; omega)⟩
      have c0 := MK.out.lr.cell hy
      have c1 := MK.out.rr.is hr
      have b1 := MK.out.r
      have HC := Lib.hid (show cand left R kk = (decide (0 < y) && r.is) by unfold cand; rw [hy, hr])
      have HS := Lib.hid (candTo_succ left R kk)
      have HPR := Lib.hid (candTo_pre left R (show kk + 1 ≤ n from hlt))
      clear hy hr
      by_cases h1 : 0 < y
      · cases h2 : r.is with
        | true =>
          rw [h2] at c1
          have HSU := Lib.hid (show candTo left R (kk + 1) = candTo left R kk ++ [(kk : Int)] by rw [HS.out, HC.out, h2, decide_eq_true h1]; rfl)
          have HS1 := Lib.hid (HSU.out ▸ HPR.out)
          obtain ⟨fn, tmps, assign, body, hy, hR⟩ := HY.out 0 _ (kk : Int) _ _ HJK.out rfl HS1.out
          clear h2
          go_upto_region 3 with (fail)
          refine (wpIn_wide (n := 1)).1 ?_
          gi_wp2_with ((try refine ⟨wide_depth _, ?_⟩); refine hR.mono ?_; clear hR; rintro e W3 (⟨rfl, hJ3, hk3⟩ | ⟨rfl, hx⟩))
          · have KW3 := Lib.hid (HK.out.trans hk3); have JW3 := Lib.hid hJ3
            clear hJ3 hk3 c0 c1 b1
            go_wp2
            go_roundg (n - (kk + 1))
            case measure => omega
            case rel => exact ⟨kk + 1, by omega, by omega, by simp, by show J _ _; rw [HSU.out]; exact JW3.out, KW3.out⟩
          · go_wp2
            refine bodyPost_ret (results_none rfl _ _ _) rfl ?_
            exact ⟨⟨_, rfl⟩, .inr ⟨_, HS1.out, hx⟩⟩
        | false =>
          rw [h2] at c1
          have HSU := Lib.hid (show candTo left R (kk + 1) = candTo left R kk by rw [HS.out, HC.out, h2]; simp)
          clear h2
          go_wp2
          go_roundg (n - (kk + 1))
          case measure => omega
          case rel => exact ⟨kk + 1, by omega, by omega, by simp, by show J _ _; rw [HSU.out]; exact HJK.out, HK.out⟩
      · have HSU := Lib.hid (show candTo left R (kk + 1) = candTo left R kk by rw [HS.out, HC.out, decide_eq_false h1]; simp)
        have h1d : decide (0 < y) = false := by simpa using h1
        go_wp2
        go_roundg (n - (kk + 1))
        case measure => omega
        case rel => exact ⟨kk + 1, by omega, by omega, by simp, by show J _ _; rw [HSU.out]; exact HJK.out, HK.out⟩
    · have HE := Lib.hid (show kk = n by omega)
      go_wp2
      go_end0
      exact ⟨⟨_, rfl⟩, .inl (by have := HJK.out; rwa [HE.out] at this)⟩
end Go.Proofs.YtafdbgielmlihaaDoor
/- market.closed, part four: what is known at first. -/
namespace Go.Proofs.YtafdbgielmlihaaDoor
open Go.RowKit Go.Shelf Go.Lib
set_option maxRecDepth 100000
set_option linter.unusedSimpArgs false

theorem RowE.set_at {α : Type} {enc : α → List Value} {t : TypeId} {w : World} {g sz : Nat} {m : List α} (henc : ∀ x, (enc x).length = sz) (h : RowE enc t w g m) {k j : Nat} {x x' : α} {v : Value} (hj : j < sz) (hx : (enc x).set j v = enc x') (hk : m[k]? = some x) : RowE enc t (w.setCell ⟨g, k * sz + j, none⟩ v) g (m.set k x') := by
  have h1 := Blk.set_ h (k * sz + j) v
  rw [List.setIfInBounds_toArray, flat_set_at henc hj hx m k hk] at h1
  exact h1
def zeroR : Rch := ⟨false, List.replicate 12 0, ⟨0, 0, 0, 0⟩⟩
def firstR (n : Int) : Rch := ⟨decide (n < 0), List.replicate 12 0, ⟨0, 0, -1, 0⟩⟩
theorem initR_eq (left : List Int) : initR left = left.map firstR := rfl
def initTo (left : List Int) (k : Nat) : List Rch := (left.take k).map firstR ++ List.replicate (left.length - k) zeroR
theorem initTo_len (left : List Int) (k : Nat) : (initTo left k).length = left.length := by
  unfold initTo
  simp only [List.length_append, List.length_map, List.length_take, List.length_replicate]; omega
theorem initTo_get {left : List Int} {k : Nat} (hk : k < left.length) : (initTo left k)[k]? = some zeroR := by
  unfold initTo
  rw [List.getElem?_append_right (by simp; omega)]
  simp only [List.length_map, List.length_take]
  rw [show k - min k left.length = 0 by omega, List.getElem?_replicate, if_pos (by omega)]
theorem initTo_step {left : List Int} {k : Nat} {y : Int} (hy : left[k]? = some y) : (initTo left k).set k (firstR y) = initTo left (k + 1) := by
  have hk : k < left.length := (List.getElem?_eq_some_iff.1 hy).1
  unfold initTo
  obtain ⟨q, hq⟩ : ∃ q, left.length - k = q + 1 := ⟨left.length - k - 1, by omega⟩
  rw [take_snoc hy, List.map_append, List.set_append_right _ _ (by simp; omega), hq, List.replicate_succ]
  simp only [List.length_map, List.length_take]
  rw [show k - min k left.length = 0 by omega, List.set_cons_zero, show left.length - (k + 1) = q by omega]
  simp
theorem initTo_all {left : List Int} {k : Nat} (hk : left.length = k) : initTo left k = initR left := by
  unfold initTo
  rw [initR_eq, List.take_of_length_le (by omega), hk, Nat.sub_self]
  simp
theorem initTo_zero (left : List Int) : initTo left 0 = List.replicate left.length zeroR := by simp [initTo]

set_option maxHeartbeats 4000000 in
theorem init_wp {left : List Int} {mb b1 bl br gl gr n : Nat} {w : World} {a0 : Act} {ds : List Deferred} {Q : Exit → Act → World → Prop}
    (hn : left.length = n) (hn6 : n ≤ 100)
    (hF : Fr 154 [(0, .pointer (some ⟨mb, 0, none⟩)), (1, .pointer (some ⟨b1, 0, none⟩)), (2, .pointer (some ⟨bl, 0, none⟩)), (3, .pointer (some ⟨br, 0, none⟩)), (31, .slice (some ⟨gl, 0, none⟩) n n), (32, .int .i64 (n : Int)), (33, .int .i64 0)] ds a0)
    (hbl : Blk w bl 22 #[.slice (some ⟨gl, 0, none⟩) n n]) (hbr : Blk w br 150 #[.slice (some ⟨gr, 0, none⟩) n n]) (hl : RowI w gl left) (hRW : RowR w gr (initTo left 0))
    (x1 : bl ≠ gr) (x2 : br ≠ gr) (x3 : gl ≠ gr)
    (hQ : ∀ A' W', Fr 154 [(0, .pointer (some ⟨mb, 0, none⟩)), (1, .pointer (some ⟨b1, 0, none⟩)), (2, .pointer (some ⟨bl, 0, none⟩)), (3, .pointer (some ⟨br, 0, none⟩))] ds A' →
      w.grownBy W' (some gr) → RowR W' gr (initR left) → Q .normal A' W') :
    (subC [1, 1, 1, 2, 3, 2, 1, 0, 1] (Tryd.f87.body.getD .skip)).wp Tryd.prog Q a0 w := by
  have HBL := Lib.hid hbl; have HBR := Lib.hid hbr; have HL := Lib.hid hl; have HRW := Lib.hid hRW; have HQ := Lib.hid hQ; have HN := Lib.hid hn
  clear hbl hbr hl hRW hQ hn
  delta Tryd.f87
  simp only [subC, Option.getD_some]
  obtain ⟨ρ, rfl, hρ⟩ := hF.open_
  simp only [List.forall_mem_cons] at hρ
  obtain ⟨r0, r1, r2, r3, r31, r32, r33, -⟩ := hρ
  simp only [lst, r0, r1, r2, r3, r31, r32, r33]
  clear r0 r1 r2 r3 r31 r32 r33 hF
  go_wp2
  go_loopg [33] n (fun gg s wr => ∃ kk : Nat, kk ≤ n ∧ n - kk ≤ gg ∧ s = .int .i64 kk ∧ Aside (RowR wr gr (initTo left kk)) ∧ Aside (w.grownBy wr (some gr)))
  case atStart => exact ⟨0, Nat.zero_le _, by omega, rfl, HRW.out, World.grownBy.refl _ _⟩
  case round =>
    obtain ⟨kk, hkk, hg, rfl, RK, GK⟩ := hrel
    by_cases hlt : kk < n
    · have hltz : (kk : Int) < (n : Int) := by omega
      obtain ⟨y, hy⟩ : ∃ y, left[kk]? = some y := ⟨_, List.getElem?_eq_getElem (by have := HN.out; omega)⟩
      have BL := Lib.hid (HBL.out.grown GK.out (by intro e; injection e with e; exact x1 e))
      have BR := Lib.hid (HBR.out.grown GK.out (by intro e; injection e with e; exact x2 e))
      have GL := Lib.hid (show RowI wr gl left from Blk.grown HL.out GK.out (by intro e; injection e with e; exact x3 e))
      have z0 := BL.out.c1
      have z1 := BR.out.c1
      have z2 := GL.out.cell hy
      have HZ := Lib.hid (initTo_get (left := left) (k := kk) (by have := HN.out; omega))
      have z3 := RowR.is RK.out HZ.out
      obtain ⟨-, -, z4, -⟩ := RowR.by' RK.out HZ.out
      have zf := RowE.frozen RK.out
      have zl := RowE.lt RK.out
      have n2 : ¬ br = gr := x2
      have HST := Lib.hid (initTo_step hy)
      clear hy
      go_wp2
      go_roundg (n - (kk + 1))
      case measure => omega
      case rel =>
        refine ⟨kk + 1, by omega, by omega, by simp, ?_, grown_set (grown_set GK.out (p := ⟨gr, kk * 17, none⟩) (.inl rfl) _) (p := ⟨gr, kk * 17 + 13 + 2, none⟩) (.inl rfl) _⟩
        show RowR _ _ _
        have h1 := RowE.set_at encR_len RK.out (k := kk) (j := 0) (x := zeroR) (x' := ⟨decide (y < 0), List.replicate 12 0, ⟨0, 0, 0, 0⟩⟩) (v := .bool (decide (y < 0))) (by decide) rfl HZ.out
        have h2 := RowE.set_at encR_len h1 (k := kk) (j := 15) (x := ⟨decide (y < 0), List.replicate 12 0, ⟨0, 0, 0, 0⟩⟩) (x' := firstR y) (v := .int .i64 (-1)) (by decide) rfl (by rw [List.getElem?_set_self (by rw [initTo_len, HN.out]; exact hlt)])
        rw [List.set_set, HST.out] at h2
        exact h2
    · have HE := Lib.hid (show kk = n by omega)
      go_wp2
      have hr := RK.out
      rw [HE.out, initTo_all HN.out] at hr
      exact HQ.out _ _ ⟨rfl, rfl, by simp [Act.eval]⟩ GK.out hr
end Go.Proofs.YtafdbgielmlihaaDoor
/- first, at numbers. -/
namespace Go.Proofs.YtafdbgielmlihaaDoor
open Go.RowKit Go.Shelf Go.Lib
set_option maxRecDepth 100000
set_option linter.unusedSimpArgs false
attribute [local go_sem] Oper.semAt_some

def firstS {α : Type} (ord : α → α → Int) (acc : Option α) (x : α) : Option α := match acc with
  | none => some x
  | some b => if ord x b < 0 then some x else some b
def firstO {α : Type} (ord : α → α → Int) (l : List α) : Option α := l.foldl (firstS ord) none
theorem firstO_snoc {α : Type} (ord : α → α → Int) (l : List α) (x : α) : firstO ord (l ++ [x]) = firstS ord (firstO ord l) x := by simp [firstO]
theorem firstO_mem {α : Type} (ord : α → α → Int) : ∀ (l : List α) (b : α), firstO ord l = some b → b ∈ l := by
  have key : ∀ (l : List α) (acc : Option α) (b : α), l.foldl (firstS ord) acc = some b → b ∈ l ∨ acc = some b := by
    intro l
    induction l with
    | nil => intro acc b h; exact .inr h
    | cons x l ih =>
      intro acc b h
      rw [List.foldl_cons] at h
      rcases ih _ b h with h | h
      · exact .inl (List.mem_cons_of_mem _ h)
      · unfold firstS at h
        split at h
        · injection h with h; exact .inl (by rw [h]; simp)
        · split at h
          · injection h with h; exact .inl (by rw [h]; simp)
          · exact .inr h
  intro l b h
  rcases key l none b h with h | h
  · exact h
  · cases h
theorem firstO_none {α : Type} (ord : α → α → Int) : ∀ (l : List α), firstO ord l = none → l = [] := by
  have key : ∀ (l : List α) (b : α), ∃ b', l.foldl (firstS ord) (some b) = some b' := by
    intro l
    induction l with
    | nil => intro b; exact ⟨b, rfl⟩
    | cons x l ih =>
      intro b
      rw [List.foldl_cons]
      unfold firstS
      split
      · exact ih _
      · split
        · exact ih _
        · exact ih _
  intro l h
  cases l with
  | nil => rfl
  | cons x l =>
    obtain ⟨b, hb⟩ := key l x
    have : firstO ord (x :: l) = some b := hb
    rw [h] at this
    cases this

set_option maxHeartbeats 2000000 in
theorem firstI_any {gf tf : FuncId} {lb tlb : Array Value} (eg : ∀ args w, (callFunc gf args).run Tryd.prog w = .ok (.enter gf args) w) (et : ∀ args w, (callFunc tf args).run Tryd.prog w = .ok (.enter tf args) w)
    {xs : List Int} {ord : Int → Int → Int} {w : World} (hseq : Seqs Tryd.prog gf lb w.heap.size (fun k => k = w.heap.size + 1 ∨ k = w.heap.size + 1 + 1) (fun (x : Int) v _ => v = .int .i64 x) xs w)
    (htest : ∀ x ∈ xs, ∀ y ∈ xs, ∀ W, Below w.heap.size w W → Calls Tryd.prog tf (#[.int .i64 x, .int .i64 y] ++ tlb) W fun e W' => e = .returned (.int .i64 (ord x y)) ∧ Ext W W') :
    Calls Tryd.prog 109 #[.func (.func gf) #[] lb, .func (.func tf) #[] tlb] w fun e w' => e = .returned (.tuple #[.int .i64 ((firstO ord xs).getD 0), .bool (firstO ord xs).isSome]) ∧ Below w.heap.size w w' := by
  refine calls_of_wp_marks Tryd.func109 rfl ?_
  simp only [Tryd.ntmps109, List.size_toArray, List.length_cons, List.length_nil, Nat.reduceAdd, Nat.reduceSub, Array.replicate_succ, Array.replicate_zero, List.push_toArray, List.append_toArray, List.nil_append, List.cons_append]
  go_wp2_with fail
  generalize hw3 : (((w.alloc (.cells #[.func (.func tf) #[] tlb] 139)).alloc (.cells #[.int .i64 0] 3)).alloc (.cells #[.bool false] 4)) = w3
  have E3 : Ext w w3 := by rw [← hw3]; exact ((Ext.al _ _).alloc _).alloc _
  have hz3 : w3.heap.size = w.heap.size + 3 := by rw [← hw3]; simp
  have B0 : Blk w3 w.heap.size 139 #[.func (.func tf) #[] tlb] := by rw [← hw3]; exact ((Blk.new _ _ _).alloc _).alloc _
  have B1 : Blk w3 (w.heap.size + 1) 3 #[.int .i64 0] := by rw [← hw3]; exact (Blk.at_ (by simp)).alloc _
  have B2 : Blk w3 (w.heap.size + 1 + 1) 4 #[.bool false] := by rw [← hw3]; exact Blk.at_ (by simp)
  refine wp_rangeFuncB (by rfl) eg hseq E3 (by omega)
    (fun pre W => Blk W w.heap.size 139 #[.func (.func tf) #[] tlb] ∧ Blk W (w.heap.size + 1) 3 #[.int .i64 ((firstO ord pre).getD 0)] ∧ Blk W (w.heap.size + 1 + 1) 4 #[.bool (firstO ord pre).isSome] ∧ Below w.heap.size w W)
    (fun _ _ _ => False)
    ?_ ?_ ?_ (fun x _ A _ => A = { tmps := #[.func (.func gf) #[] lb, .func (.func tf) #[] tlb, undef, .pointer (some ⟨w.heap.size, 0, none⟩), .int .i64 0, .bool false, .pointer (some ⟨w.heap.size + 1, 0, none⟩), .pointer (some ⟨w.heap.size + 1 + 1, 0, none⟩), .int .i64 x, .func (.func gf) #[] lb, .int .i64 x, undef, undef, undef, undef, undef, undef, undef, undef, undef, undef, undef, undef], defers := [] }) ?_ ?_ ?_ ?_ ?_
  · rintro pre A B ⟨h2, h3, h4, h5⟩ hA hT
    exact ⟨h2.turn hT (by omega) (by omega), h3.turn hT (by omega) (by omega), h4.turn hT (by omega) (by omega), hT.below h5 (by omega) (by omega)⟩
  · rintro c pre A B h
    exact h.elim
  · intro W hW
    exact ⟨B0.ext hW, B1.ext hW, B2.ext hW, E3.trans hW⟩
  · rintro x v A W W' h _ _
    exact h
  · rintro m l pre x v W K hi hv hpre hlt hK
    subst hv
    clear hi
    gi_wp2
    exact hK _ _ (Ext.refl _) rfl
  · rintro m l pre x v A W ⟨h2, h3, h4, h5⟩ rfl hpre hlt hd hr
    have hx : x ∈ xs := by
      obtain ⟨q, hq⟩ := hpre
      rw [← hq]; simp
    have hpx : ∀ y ∈ pre, y ∈ xs := by
      obtain ⟨q, hq⟩ := hpre
      intro y hy
      rw [← hq]; simp [hy]
    have H2 := Lib.hid h2; have H3 := Lib.hid h3; have H4 := Lib.hid h4; have H5 := Lib.hid h5
    have HS := Lib.hid (firstO_snoc ord pre x)
    obtain ⟨x0, -, l0⟩ := H2.out.c1
    obtain ⟨x1, f1, l1⟩ := H3.out.c1
    obtain ⟨x2, f2, l2⟩ := H4.out.c1
    have HLT := Lib.hid hlt
    have HPX := Lib.hid hpx; have HXX := Lib.hid hx
    have HTE := Lib.hid htest
    clear hpre hd hr h2 h3 h4 h5 B0 B1 B2 hseq hlt hpx hx htest
    cases hacc : firstO ord pre with
    | none =>
      rw [hacc] at x1 x2
      have HSN := Lib.hid (show firstO ord (pre ++ [x]) = some x by rw [HS.out, hacc]; rfl)
      clear hacc
      simp only [Option.getD, Option.isSome] at x1 x2
      gi_wp2
      refine ⟨fun _ h => (by cases h), ?_⟩
      gi_wp2
      have hw := H5.out.size
      have hlt := HLT.out
      have he := Below.size (Ext.refl W)
      refine ⟨((Keep.ext (Ext.refl W) hw).setCell (by dsimp only; omega) (.inl rfl) _).setCell (by dsimp only; omega) (.inr rfl) _, ?_, ?_, ((H2.out.ext (Ext.refl W)).far (by dsimp only; omega) _).far (by dsimp only; omega) _, ?_, ?_, ((H5.out.trans (Below.mono (Ext.refl W) hw)).setCell (by dsimp only; omega) _).setCell (by dsimp only; omega) _⟩
      · exact (Below.heap_setCell _ _ _ _ (by dsimp only; omega)).trans ((Below.heap_setCell _ _ _ _ (by dsimp only; omega)).trans (Below.block (Ext.refl W) _ (by omega)))
      · exact (Below.heap_setCell _ _ _ _ (by dsimp only; omega)).trans ((Below.heap_setCell _ _ _ _ (by dsimp only; omega)).trans (Below.block (Ext.refl W) _ (by omega)))
      · rw [HSN.out]; exact ((H3.out.ext (Ext.refl W)).set_ 0 _).far (by dsimp only; omega) _
      · rw [HSN.out]; exact ((H4.out.ext (Ext.refl W)).far (by dsimp only; omega) _).set_ 0 _
    | some b =>
      rw [hacc] at x1 x2
      have hb := firstO_mem ord pre b hacc
      have HTB := Lib.hid (HTE.out x HXX.out b (HPX.out b hb) W H5.out)
      have HSN := Lib.hid (show firstO ord (pre ++ [x]) = if ord x b < 0 then some x else some b by rw [HS.out, hacc]; rfl)
      have HAC := Lib.hid hacc
      clear hacc hb
      simp only [Option.getD, Option.isSome] at x1 x2
      gi_wp2_with fail
      refine ⟨trivial, wide_depth _, ?_⟩
      refine (CallsIn.inRound l (callsIn_wide.2 HTB.out)).mono ?_
      rintro e W1 ⟨rfl, hE⟩
      have HE := Lib.hid hE
      clear hE x0 x1 f1 l1 x2 f2 l2
      obtain ⟨x1, f1, l1⟩ := (H3.out.ext HE.out).c1
      obtain ⟨x2, f2, l2⟩ := (H4.out.ext HE.out).c1
      by_cases hlt : ord x b < 0
      · have HSM := Lib.hid (show firstO ord (pre ++ [x]) = some x by rw [HSN.out, if_pos hlt])
        gi_wp2
        have hw := H5.out.size
        have hlt := HLT.out
        have he := Below.size (HE.out)
        refine ⟨((Keep.ext (HE.out) hw).setCell (by dsimp only; omega) (.inl rfl) _).setCell (by dsimp only; omega) (.inr rfl) _, ?_, ?_, ((H2.out.ext (HE.out)).far (by dsimp only; omega) _).far (by dsimp only; omega) _, ?_, ?_, ((H5.out.trans (Below.mono (HE.out) hw)).setCell (by dsimp only; omega) _).setCell (by dsimp only; omega) _⟩
        · exact (Below.heap_setCell _ _ _ _ (by dsimp only; omega)).trans ((Below.heap_setCell _ _ _ _ (by dsimp only; omega)).trans (Below.block (HE.out) _ (by omega)))
        · exact (Below.heap_setCell _ _ _ _ (by dsimp only; omega)).trans ((Below.heap_setCell _ _ _ _ (by dsimp only; omega)).trans (Below.block (HE.out) _ (by omega)))
        · rw [HSM.out]; exact ((H3.out.ext (HE.out)).set_ 0 _).far (by dsimp only; omega) _
        · rw [HSM.out]; exact ((H4.out.ext (HE.out)).far (by dsimp only; omega) _).set_ 0 _
      · have HSM := Lib.hid (show firstO ord (pre ++ [x]) = some b by rw [HSN.out, if_neg hlt])
        gi_wp2
        have hw := H5.out.size
        have hlt := HLT.out
        exact ⟨Keep.ext HE.out hw, HE.out.block _ (by omega), HE.out.block _ (by omega), H2.out.ext HE.out, by rw [HSM.out, ← HAC.out]; exact H3.out.ext HE.out, by rw [HSM.out, ← HAC.out]; exact H4.out.ext HE.out, H5.out.trans (HE.out.mono hw)⟩
  · rintro V ⟨h2, h3, h4, h5⟩ hlt hK
    obtain ⟨fo, hfo⟩ : ∃ fo, firstO ord xs = fo := ⟨_, rfl⟩
    rw [hfo] at h3 h4
    have HFO := Lib.hid hfo
    clear hfo
    have H3 := Lib.hid h3; have H4 := Lib.hid h4; have H5 := Lib.hid h5; have HKK := Lib.hid hK
    clear h2 h3 h4 h5 B0 B1 B2 hK hseq htest E3
    have m1 := fun W (h : Ext V W) => (H3.out.ext h).c1
    have m2 := fun W (h : Ext V W) => (H4.out.ext h).c1
    go_wp2
    refine wp_region_tame (fun W => Ext V W) (fun W W' => Ext W W') (by kernel_rfl) 23 rfl (by decide +kernel) (Ext.refl _).drew ?_
    repeat (apply tame_q rfl; (intro ρ W hC hr hD; (obtain ⟨hrc, hrg, hrf, hrs⟩ := hr); (simp [go_sem] at hD); go_simp; first | exact ⟨⟨hC, Ext.refl _⟩, rfl⟩ | exact ⟨⟨hC, RS.refl _⟩, rfl⟩ | exact rfl); simp only [List.nil_append, List.cons_append])
    refine tame_end 23 rfl rfl (fun ρ W hC hr hF => ?_)
    obtain ⟨hrc, hrg, hrf, hrs⟩ := hr
    simp [go_sem] at hF
    apply frame_to
    · go_simp
      exact rfl
    clear hF hrs hrc hrg hrf
    have HE := Lib.hid hC
    clear hC m1 m2
    have hK' := (HE.out.block w3.heap.size (by omega)).trans HKK.out
    go_wp2
    refine ⟨by simp, .inl ⟨_, _, rfl, run_takeDeferred hK', ?_⟩⟩
    have hw := H5.out.size
    refine ⟨_, results_tmp2 rfl _ _ _, by rw [HFO.out]; rfl, ?_⟩
    have hbel := H5.out.trans (HE.out.mono hw)
    exact Turn.below hbel (Turn.put0 (s := w3.heap.size) _ _) (by omega) hbel.size
  · rintro c pre W _ h
    exact h.elim
end Go.Proofs.YtafdbgielmlihaaDoor
/- market.closed, part one: one pass over all steps. -/
namespace Go.Proofs.YtafdbgielmlihaaDoor
open Go.RowKit Go.Shelf Go.Lib
set_option maxRecDepth 100000
set_option linter.unusedSimpArgs false
attribute [local go_sem] Oper.semAt_some

theorem Keep.sets {n₀ g : Nat} {X : Nat → Prop} {A : World} (h1 : n₀ ≤ g) (h2 : X g) : ∀ (ys : List Value) {B : World} (_ : Keep n₀ X A B) (i : Nat), Keep n₀ X A (setsW B g i ys)
  | [], _, h, _ => h
  | y :: ys, _, h, i => Keep.sets h1 h2 ys (h.setCell h1 h2 y) (i + 1)
theorem setsW_other {g k : Nat} (hk : k ≠ g) : ∀ (ys : List Value) (W : World) (i : Nat), (setsW W g i ys).heap[k]? = W.heap[k]?
  | [], _, _ => rfl
  | y :: ys, W, i => by rw [setsW, setsW_other hk ys]; exact Below.heap_setCell _ _ _ _ hk
/-- A fresh cost. -/
def FreshC (B : Nat) (v : Value) (W : World) : Prop := ∃ g, v = .pointer (some ⟨g, 0, none⟩) ∧ B ≤ g ∧ Blk W g 125 #[.int .i64 0, .int .i64 0, .int .i64 0, .int .i64 0, .int .i64 0, .int .i64 0, .int .i64 0, .int .i64 0, .int .i64 0, .int .i64 0, .int .i64 0, .int .i64 0]
theorem FreshC.ext {B : Nat} {v : Value} {W W' : World} (h : FreshC B v W) (e : Ext W W') : FreshC B v W' := by
  obtain ⟨g, h1, h2, h3⟩ := h
  exact ⟨g, h1, h2, h3.ext e⟩
theorem encR_lit (b : Bool) (p0 p1 p2 p3 p4 p5 p6 p7 p8 p9 p10 p11 : Int) (x : Stp) : encR ⟨b, [p0, p1, p2, p3, p4, p5, p6, p7, p8, p9, p10, p11], x⟩ = [.bool b, .int .i64 p0, .int .i64 p1, .int .i64 p2, .int .i64 p3, .int .i64 p4, .int .i64 p5, .int .i64 p6, .int .i64 p7, .int .i64 p8, .int .i64 p9, .int .i64 p10, .int .i64 p11, .int .i64 x.src, .int .i64 x.dst, .int .i64 x.sale, .int .i64 x.more] := rfl
abbrev SlC (w : World) (v : Value) (C : List (List Int)) : Prop := Sl enc12 12 w v C
theorem SlC.cell {w W : World} {b off k : Nat} {x : List Int} (h : ∀ W, Ext w W → ∀ j u, (enc12 x)[j]? = some u → W.cell? ⟨b, off + k * 12 + j, none⟩ = some u) (hW : Ext w W) (hl : x.length = 12) {j : Nat} {y : Int} (hy : x[j]? = some y) : W.cell? ⟨b, off + k * 12 + j, none⟩ = some (.int .i64 y) :=
  h W hW j _ (by rw [enc12_eq hl, List.getElem?_map, hy]; rfl)

set_option maxHeartbeats 4000000 in
theorem round_wp {c : Chn} {M : List Int} {f : Nat → Int} {C : List (List Int)} {R : List Rch} {K : Int} {mb b1 bl br gr n k : Nat} {A : Option Addr} {cp : Nat} {A2 : Option Addr} {n2 cp2 : Nat} {A3 : Option Addr} {n3 cp3 : Nat} {Ac : Option Addr} {nc cc : Nat} {w : World} {a0 : Act} {ds : List Deferred} {Q : Exit → Act → World → Prop}
    (hR : Right c) (hl : c.sales.length ≤ 1000) (hml : M.length = c.sales.length) (hCo : Costs f C) (hCl : C.length = c.sales.length) (hn : n = c.houses.length) (hRl : R.length = n) (hS : Small K R) (hK : K + (stepsL c M).length ≤ 1000)
    (hF : Fr 154 [(0, .pointer (some ⟨mb, 0, none⟩)), (1, .pointer (some ⟨b1, 0, none⟩)), (2, .pointer (some ⟨bl, 0, none⟩)), (3, .pointer (some ⟨br, 0, none⟩)), (51, .int .i64 (n : Int)), (52, .int .i64 (k : Int))] ds a0)
    (h1 : Blk w b1 109 #[.pointer (some ⟨mb, 0, none⟩)]) (hbr : Blk w br 150 #[.slice (some ⟨gr, 0, none⟩) n n]) (hM : Mkt c M mb A n cp A2 n2 cp2 A3 n3 cp3 (.slice Ac nc cc) w) (hC : SlC w (.slice Ac nc cc) C) (hRW : RowR w gr R)
    (x0 : MktX (fun k => k = gr) c M mb A A2 A3) (x1 : b1 ≠ gr) (x2 : br ≠ gr) (x3 : 0 < C.length → ∀ b o, Ac = some ⟨b, o, none⟩ → b ≠ gr)
    (hQ : ∀ A' W', Fr 154 [(0, .pointer (some ⟨mb, 0, none⟩)), (1, .pointer (some ⟨b1, 0, none⟩)), (2, .pointer (some ⟨bl, 0, none⟩)), (3, .pointer (some ⟨br, 0, none⟩)), (51, .int .i64 (n : Int)), (52, .int .i64 (k : Int))] ({ target := .collected (w.heap.size + 1), args := #[] } :: ds) A' →
      w.grownBy W' (some gr) → RowR W' gr ((stepsL c M).foldl (relaxR C) R) → W'.heap[w.heap.size + 1]? = some (.deferred (some [])) → Q .normal A' W') :
    (subC [1, 1, 1, 2, 3, 2, 1, 1, 0, 1, 2, 3, 1, 1, 0] (Tryd.f87.body.getD .skip)).wp Tryd.prog Q a0 w := by
  obtain ⟨A2', n2', cp2', e2, hn2, hlc2, hcm2⟩ := hM.s.form
  injection e2 with e2 e3 e4
  subst e2 e3 e4
  have HOK := Lib.hid (fun s hs => stepsL_ok hR (m := M) (s := s) hs)
  have H1 := Lib.hid h1; have HBR := Lib.hid hbr; have HM := Lib.hid hM; have HC := Lib.hid hC; have HRW := Lib.hid hRW; have HQ := Lib.hid hQ; have HR := Lib.hid hR; have HML := Lib.hid hml; have HCO := Lib.hid hCo; have HCL := Lib.hid hCl; have HN := Lib.hid hn; have HRL := Lib.hid hRl; have HS := Lib.hid hS
  have b1c := h1.c1
  clear h1 hbr hM hC hRW hQ hR hml hCo hCl hn hRl hS
  delta Tryd.f87
  simp only [subC, Option.getD_some]
  obtain ⟨ρ, rfl, hρ⟩ := hF.open_
  simp only [List.forall_mem_cons] at hρ
  obtain ⟨r0, r1, r2, r3, r51, r52, -⟩ := hρ
  simp only [lst, r0, r1, r2, r3, r51, r52]
  clear r0 r1 r2 r3 r51 r52 hF
  go_wp2_with fail
  refine (steps_any mb _).mono ?_
  rintro e w' ⟨rfl, rfl⟩
  clear b1c
  go_wp2_with fail
  obtain ⟨W1, hW1⟩ : ∃ W1, W1 = w.alloc (.cells #[.pointer (some ⟨mb, 0, none⟩)] 109) := ⟨_, rfl⟩
  have E1 := Lib.hid (show Ext w W1 from hW1 ▸ Ext.al _ _)
  have BX := Lib.hid (show Blk W1 w.heap.size 109 #[.pointer (some ⟨mb, 0, none⟩)] from hW1 ▸ Blk.new _ _ _)
  have Z1 := Lib.hid (show W1.heap.size = w.heap.size + 1 by rw [hW1]; simp)
  simp only [← hW1]
  clear hW1
  have hgl := HRW.out.lt
  have HGL := Lib.hid hgl
  have hz1 := Z1.out
  refine wp_rangeFuncB (by rfl) (enters_of Tryd.func122 (by kernel_rfl) rfl) (steps_seqs (c := c) (M := M) (mb := mb) (bx := w.heap.size) (n₀ := 0) (X := fun k => k = gr) (w := W1) HR.out hl HML.out (fun b hb => by subst hb; omega) (by omega) x0 (Nat.zero_le _) (by simpa using BX.out.cell 0) (HM.out.ext E1.out)) (Ext.refl _) (Nat.zero_le _)
    (fun pre W => W1.grownBy W (some gr) ∧ RowR W gr (pre.foldl (relaxR C) R))
    (fun _ _ _ => False)
    ?_ ?_ ?_ (fun x _ A W => ∃ b6, W1.heap.size + 1 < b6 ∧ Blk W b6 152 #[.int .i64 x.src, .int .i64 x.dst, .int .i64 x.sale, .int .i64 x.more] ∧ Fr 154 [(1, .pointer (some ⟨b1, 0, none⟩)), (3, .pointer (some ⟨br, 0, none⟩)), (6, .pointer (some ⟨b6, 0, none⟩))] [] A) ?_ ?_ ?_ ?_ ?_
  · rintro pre A B ⟨h2, h3⟩ hA hT
    exact ⟨grown_turn h2 hT (Nat.le_refl _), Blk.turn h3 hT (by omega) (by omega)⟩
  · rintro c pre A B h
    exact h.elim
  · intro W hW
    exact ⟨⟨hW.os, hW.tape, hW.output, hW.size, fun i hi _ => hW.block i hi⟩, (HRW.out.ext E1.out).ext hW⟩
  · rintro x v A W W' ⟨b6, h6, hB, hF⟩ _ hT
    exact ⟨b6, h6, hB.turn hT (by omega) (by omega), hF⟩
  · rintro m l pre x v W K hi rfl hpre hlt hK
    have HLT := Lib.hid hlt
    clear hi hpre hlt
    gi_wp2
    exact hK _ _ (Ext.al _ _) ⟨W.heap.size, HLT.out, Blk.new _ _ _, ⟨rfl, rfl, by simp [Act.eval]⟩⟩
  · rintro m l pre x v A W ⟨hG, hRX⟩ ⟨b6, hb6, hB6, hF⟩ hpre hlt hd hr
    have hx : x ∈ stepsL c M := by
      obtain ⟨q, hq⟩ := hpre
      rw [← hq]; simp
    have hpx : ∀ y ∈ pre, y ∈ stepsL c M := by
      obtain ⟨q, hq⟩ := hpre
      intro y hy
      rw [← hq]; simp [hy]
    have hpl : pre.length + 1 ≤ (stepsL c M).length := by
      have := hpre.length_le
      simpa using this
    obtain ⟨o1, o2, o3, o4, o5, o6, o7⟩ := HOK.out x hx
    have HSA := Lib.hid (Small.fold HCO.out pre (fun y hy => (HOK.out y (hpx y hy)).m) HS.out)
    have HRAL := Lib.hid (show (pre.foldl (relaxR C) R).length = n by rw [foldR_len, HRL.out])
    have HFO := Lib.hid (show (pre ++ [x]).foldl (relaxR C) R = relaxR C (pre.foldl (relaxR C) R) x by rw [List.foldl_append]; rfl)
    generalize pre.foldl (relaxR C) R = Ra at hRX HSA HRAL HFO
    obtain ⟨xs, xd, xi, xm⟩ := x
    simp only at o1 o2 o3 o4 o5 o6 o7 hB6
    obtain ⟨s, rfl⟩ : ∃ s : Nat, xs = s := ⟨xs.toNat, by omega⟩
    obtain ⟨d, rfl⟩ : ∃ s : Nat, xd = s := ⟨xd.toNat, by omega⟩
    obtain ⟨i, rfl⟩ : ∃ s : Nat, xi = s := ⟨xi.toNat, by omega⟩
    have hsn : s < n := by have := HN.out; omega
    have hdn : d < n := by have := HN.out; omega
    have hiC : i < C.length := by have := HCL.out; omega
    obtain ⟨ra, hra⟩ : ∃ r, Ra[s]? = some r := ⟨_, List.getElem?_eq_getElem (by rw [HRAL.out]; exact hsn)⟩
    obtain ⟨rb, hrb⟩ : ∃ r, Ra[d]? = some r := ⟨_, List.getElem?_eq_getElem (by rw [HRAL.out]; exact hdn)⟩
    obtain ⟨nc', A', e1, hnc, hlcc, hcmc⟩ : ∃ n' c', (Value.slice Ac nc cc) = .slice Ac n' c' ∧ Hid (n' = C.length) ∧ n' ≤ c' ∧ c' ≤ 9223372036854775807 := by
      obtain ⟨A', n', c', e, h1, h2, h3⟩ := HC.out.form
      injection e with e1 e2 e3
      subst e1 e2 e3
      exact ⟨_, _, rfl, h1, h2, h3⟩
    injection e1 with _ e1 e2
    subst e1 e2
    obtain ⟨bc, oc, co, rfl, hco, -, hcoc⟩ := ((HC.out.ext E1.out).grown hG x3).at_ (show i < nc by have := hnc.out; omega)
    obtain ⟨ca1, ca2⟩ := HSA.out ra (List.mem_of_getElem? hra)
    obtain ⟨cb1, cb2⟩ := HSA.out rb (List.mem_of_getElem? hrb)
    obtain ⟨cc1, cc2, -⟩ := HCO.out.l i co hco
    have HRE := Lib.hid (show relaxR C Ra ⟨(s : Int), (d : Int), (i : Int), xm⟩ = if ra.is && (!rb.is || decide (cmpL (plusL ra.cost co xm) rb.cost < 0)) then Ra.set d ⟨true, plusL ra.cost co xm, ⟨(s : Int), (d : Int), (i : Int), xm⟩⟩ else Ra by
      unfold relaxR
      simp only [Int.toNat_natCast, hra, hrb, hco])
    have HG := Lib.hid hG; have HRX := Lib.hid hRX; have HLT := Lib.hid hlt
    have B1 := Lib.hid ((H1.out.ext E1.out).grown hG (by intro e; injection e with e; exact x1 e))
    have BR := Lib.hid ((HBR.out.ext E1.out).grown hG (by intro e; injection e with e; exact x2 e))
    have BM := Lib.hid ((HM.out.b.ext E1.out).grown hG (by intro e; injection e with e; exact x0.b e))
    have B6 := Lib.hid hB6
    have HPR := Lib.hid hpl
    have hsz : (s : Int) < (n : Int) := by omega
    have hdz : (d : Int) < (n : Int) := by omega
    have hiz : (i : Int) < (nc : Int) := by have := hnc.out; omega
    have hiz' : i < nc := by have := hnc.out; omega
    have HRA := Lib.hid hra; have HRB := Lib.hid hrb; have HCOC := Lib.hid hcoc
    have HA1 := Lib.hid ca1; have HA2 := Lib.hid ca2; have HB1 := Lib.hid cb1; have HB2 := Lib.hid cb2; have HC1 := Lib.hid cc1; have HC2 := Lib.hid cc2; have HXM := Lib.hid o7
    clear hx hpx hpl hpre hG hRX hlt hd hr hra hrb hco hcoc ca1 ca2 cb1 cb2 cc1 cc2 o1 o2 o3 o4 o5 o6 o7 hB6
    obtain ⟨ρ, rfl, hρ⟩ := hF.open_
    simp only [List.forall_mem_cons] at hρ
    obtain ⟨r1, r3, r6, -⟩ := hρ
    simp only [lst, r1, r3, r6]
    clear r1 r3 r6 hF
    have y0 := BR.out.c1
    have y1 := B6.out.c4
    have y2 := RowR.is HRX.out HRA.out
    cases hai : ra.is with
    | false =>
      rw [hai] at y2 HRE
      gi_wp2
      exact ⟨Keep.refl _, rfl, rfl, HG.out, by rw [HFO.out, HRE.out]; exact HRX.out⟩
    | true =>
      rw [hai] at y2 HRE
      obtain ⟨a0, a1, a2, a3, a4, a5, a6, a7, a8, a9, a10, a11, hae⟩ := twelve HA1.out
      obtain ⟨e0, e1, e2, e3, e4, e5, e6, e7, e8, e9, e10, e11, hee⟩ := twelve HC1.out
      have HAE := Lib.hid hae; have HEE := Lib.hid hee
      clear hae hee
      have KA := Lib.hid (fun (V : World) (h : Ext W V) (j : Nat) (y : Int) (hy : ra.cost[j]? = some y) => RowR.cost (RowE.ext HRX.out h) HRA.out HA1.out hy)
      have KE := Lib.hid (fun (V : World) (h : Ext W V) (j : Nat) (y : Int) (hy : co[j]? = some y) => SlC.cell HCOC.out h HC1.out hy)
      have ka0 := fun (V : World) (h : Ext W V) => (show V.cell? ⟨gr, s * 17 + 1, none⟩ = some (.int .i64 a0) from KA.out V h 0 a0 (by rw [HAE.out]; rfl))
      have ka1 := fun (V : World) (h : Ext W V) => (show V.cell? ⟨gr, s * 17 + 2, none⟩ = some (.int .i64 a1) from KA.out V h 1 a1 (by rw [HAE.out]; rfl))
      have ka2 := fun (V : World) (h : Ext W V) => (show V.cell? ⟨gr, s * 17 + 3, none⟩ = some (.int .i64 a2) from KA.out V h 2 a2 (by rw [HAE.out]; rfl))
      have ka3 := fun (V : World) (h : Ext W V) => (show V.cell? ⟨gr, s * 17 + 4, none⟩ = some (.int .i64 a3) from KA.out V h 3 a3 (by rw [HAE.out]; rfl))
      have ka4 := fun (V : World) (h : Ext W V) => (show V.cell? ⟨gr, s * 17 + 5, none⟩ = some (.int .i64 a4) from KA.out V h 4 a4 (by rw [HAE.out]; rfl))
      have ka5 := fun (V : World) (h : Ext W V) => (show V.cell? ⟨gr, s * 17 + 6, none⟩ = some (.int .i64 a5) from KA.out V h 5 a5 (by rw [HAE.out]; rfl))
      have ka6 := fun (V : World) (h : Ext W V) => (show V.cell? ⟨gr, s * 17 + 7, none⟩ = some (.int .i64 a6) from KA.out V h 6 a6 (by rw [HAE.out]; rfl))
      have ka7 := fun (V : World) (h : Ext W V) => (show V.cell? ⟨gr, s * 17 + 8, none⟩ = some (.int .i64 a7) from KA.out V h 7 a7 (by rw [HAE.out]; rfl))
      have ka8 := fun (V : World) (h : Ext W V) => (show V.cell? ⟨gr, s * 17 + 9, none⟩ = some (.int .i64 a8) from KA.out V h 8 a8 (by rw [HAE.out]; rfl))
      have ka9 := fun (V : World) (h : Ext W V) => (show V.cell? ⟨gr, s * 17 + 10, none⟩ = some (.int .i64 a9) from KA.out V h 9 a9 (by rw [HAE.out]; rfl))
      have ka10 := fun (V : World) (h : Ext W V) => (show V.cell? ⟨gr, s * 17 + 11, none⟩ = some (.int .i64 a10) from KA.out V h 10 a10 (by rw [HAE.out]; rfl))
      have ka11 := fun (V : World) (h : Ext W V) => (show V.cell? ⟨gr, s * 17 + 12, none⟩ = some (.int .i64 a11) from KA.out V h 11 a11 (by rw [HAE.out]; rfl))
      have ke0 := fun (V : World) (h : Ext W V) => (show V.cell? ⟨bc, oc + i * 12, none⟩ = some (.int .i64 e0) from KE.out V h 0 e0 (by rw [HEE.out]; rfl))
      have ke1 := fun (V : World) (h : Ext W V) => (show V.cell? ⟨bc, oc + i * 12 + 1, none⟩ = some (.int .i64 e1) from KE.out V h 1 e1 (by rw [HEE.out]; rfl))
      have ke2 := fun (V : World) (h : Ext W V) => (show V.cell? ⟨bc, oc + i * 12 + 2, none⟩ = some (.int .i64 e2) from KE.out V h 2 e2 (by rw [HEE.out]; rfl))
      have ke3 := fun (V : World) (h : Ext W V) => (show V.cell? ⟨bc, oc + i * 12 + 3, none⟩ = some (.int .i64 e3) from KE.out V h 3 e3 (by rw [HEE.out]; rfl))
      have ke4 := fun (V : World) (h : Ext W V) => (show V.cell? ⟨bc, oc + i * 12 + 4, none⟩ = some (.int .i64 e4) from KE.out V h 4 e4 (by rw [HEE.out]; rfl))
      have ke5 := fun (V : World) (h : Ext W V) => (show V.cell? ⟨bc, oc + i * 12 + 5, none⟩ = some (.int .i64 e5) from KE.out V h 5 e5 (by rw [HEE.out]; rfl))
      have ke6 := fun (V : World) (h : Ext W V) => (show V.cell? ⟨bc, oc + i * 12 + 6, none⟩ = some (.int .i64 e6) from KE.out V h 6 e6 (by rw [HEE.out]; rfl))
      have ke7 := fun (V : World) (h : Ext W V) => (show V.cell? ⟨bc, oc + i * 12 + 7, none⟩ = some (.int .i64 e7) from KE.out V h 7 e7 (by rw [HEE.out]; rfl))
      have ke8 := fun (V : World) (h : Ext W V) => (show V.cell? ⟨bc, oc + i * 12 + 8, none⟩ = some (.int .i64 e8) from KE.out V h 8 e8 (by rw [HEE.out]; rfl))
      have ke9 := fun (V : World) (h : Ext W V) => (show V.cell? ⟨bc, oc + i * 12 + 9, none⟩ = some (.int .i64 e9) from KE.out V h 9 e9 (by rw [HEE.out]; rfl))
      have ke10 := fun (V : World) (h : Ext W V) => (show V.cell? ⟨bc, oc + i * 12 + 10, none⟩ = some (.int .i64 e10) from KE.out V h 10 e10 (by rw [HEE.out]; rfl))
      have ke11 := fun (V : World) (h : Ext W V) => (show V.cell? ⟨bc, oc + i * 12 + 11, none⟩ = some (.int .i64 e11) from KE.out V h 11 e11 (by rw [HEE.out]; rfl))
      obtain ⟨p0, p1, p2, p3, p4, p5, p6, p7, p8, p9, p10, p11, hpe⟩ := twelve (show (plusL ra.cost co xm).length = 12 by rw [plusL_len, HA1.out, HC1.out]; rfl)
      have HPE := Lib.hid hpe
      have HPL := Lib.hid (fun V' => by
        have h := plus12_any ra.cost co xm V' HA1.out HC1.out (fun z hz => by have := HPR.out; have := HA2.out z hz; omega) HC2.out HXM.out
        rw [hpe, HAE.out, HEE.out] at h
        exact (show Calls Tryd.prog 107 #[.agg #[.int .i64 a0, .int .i64 a1, .int .i64 a2, .int .i64 a3, .int .i64 a4, .int .i64 a5, .int .i64 a6, .int .i64 a7, .int .i64 a8, .int .i64 a9, .int .i64 a10, .int .i64 a11], .agg #[.int .i64 e0, .int .i64 e1, .int .i64 e2, .int .i64 e3, .int .i64 e4, .int .i64 e5, .int .i64 e6, .int .i64 e7, .int .i64 e8, .int .i64 e9, .int .i64 e10, .int .i64 e11], .int .i64 xm] V' (fun e w' => e = .returned (.agg #[.int .i64 p0, .int .i64 p1, .int .i64 p2, .int .i64 p3, .int .i64 p4, .int .i64 p5, .int .i64 p6, .int .i64 p7, .int .i64 p8, .int .i64 p9, .int .i64 p10, .int .i64 p11]) ∧ Ext V' w') from h))
      clear hpe
      have m0 := fun V (h : Ext W V) => (BR.out.ext h).c1
      have m1 := fun V (h : Ext W V) => (B6.out.ext h).c4
      have m2 := fun V (h : Ext W V) => (B1.out.ext h).c1
      have m3 := fun V (h : Ext W V) => (BM.out.ext h).c4
      gi_wp2
      obtain ⟨V, hV⟩ : ∃ V, V = W := ⟨_, rfl⟩
      subst hV
      refine wpIn_region_tame (Open.round _ _) (fun W => Ext V W) (fun W W' => Ext W W') (by kernel_rfl) 154 rfl 18 (by decide +kernel) (by decide +kernel) (by decide +kernel) (Ext.refl _).drew ?_
      simp only [List.take, List.map]
      repeat (apply tame_q rfl; (intro ρ W hC hr hD; (obtain ⟨hrc, hrg, hrf, hrs⟩ := hr); (simp [go_sem] at hD); go_simp; first | exact ⟨⟨hC, Ext.refl _⟩, rfl⟩ | exact ⟨⟨hC, RS.refl _⟩, rfl⟩ | exact rfl); simp only [List.nil_append, List.cons_append])
      apply tame_q rfl
      · intro ρ W hC hr hD
        obtain ⟨hrc, hrg, hrf, hrs⟩ := hr
        simp [go_sem] at hD
        go_simp
        refine (HPL.out W).mono ?_
        rintro e w' ⟨rfl, hE⟩
        exact ⟨_, rfl, ⟨hC.trans hE, hE⟩, rfl⟩
      simp only [List.nil_append, List.cons_append]
      apply tame_v rfl (FreshC V.heap.size) (fun v W W' _ hE h => h.ext hE)
      · intro ρ W hC hr hD
        obtain ⟨hrc, hrg, hrf, hrs⟩ := hr
        simp [go_sem] at hD
        go_simp
        exact ⟨⟨hC.alloc _, Ext.al _ _⟩, ⟨_, rfl, hC.size, Blk.new _ _ _⟩⟩
      simp only [List.nil_append, List.cons_append]
      refine tame_end 154 rfl rfl (fun ρ W hC hr hF => ?_)
      obtain ⟨hrc, hrg, hrf, hrs⟩ := hr
      simp [go_sem] at hF
      obtain ⟨g7, e7, hg7, hB7⟩ := hF.2.2.2.2.2.2.2.2.2.2.2.2.2.2.2.2.2
      apply frame_to
      · go_simp
        exact rfl
      have EV := Lib.hid hC; have B7 := Lib.hid hB7
      clear hF hrs hrc hrg hrf hC hB7 e7 y0 y1 y2
      simp only [List.drop]
      have q0 := B7.out.cell 0; have q1 := B7.out.cell 1; have q2 := B7.out.cell 2; have q3 := B7.out.cell 3; have q4 := B7.out.cell 4; have q5 := B7.out.cell 5; have q6 := B7.out.cell 6; have q7 := B7.out.cell 7; have q8 := B7.out.cell 8; have q9 := B7.out.cell 9; have q10 := B7.out.cell 10; have q11 := B7.out.cell 11
      have qf := B7.out.frozen
      have ql := B7.out.lt
      simp at q0 q1 q2 q3 q4 q5 q6 q7 q8 q9 q10 q11
      gi_wp2
      change Code.wpIn _ _ _ _ _ _ (setsW W g7 0 [.int .i64 p0, .int .i64 p1, .int .i64 p2, .int .i64 p3, .int .i64 p4, .int .i64 p5, .int .i64 p6, .int .i64 p7, .int .i64 p8, .int .i64 p9, .int .i64 p10, .int .i64 p11])
      obtain ⟨V2, hV2⟩ : ∃ V2, V2 = setsW W g7 0 [.int .i64 p0, .int .i64 p1, .int .i64 p2, .int .i64 p3, .int .i64 p4, .int .i64 p5, .int .i64 p6, .int .i64 p7, .int .i64 p8, .int .i64 p9, .int .i64 p10, .int .i64 p11] := ⟨_, rfl⟩
      rw [← hV2]
      clear q0 q1 q2 q3 q4 q5 q6 q7 q8 q9 q10 q11 qf ql m0 m1 m2 m3 ka0 ka1 ka2 ka3 ka4 ka5 ka6 ka7 ka8 ka9 ka10 ka11 ke0 ke1 ke2 ke3 ke4 ke5 ke6 ke7 ke8 ke9 ke10 ke11
      have E2 := Lib.hid (show Ext V V2 from hV2 ▸ setsW_ext hg7 _ EV.out 0)
      have B7 := Lib.hid (show Blk V2 g7 125 #[.int .i64 p0, .int .i64 p1, .int .i64 p2, .int .i64 p3, .int .i64 p4, .int .i64 p5, .int .i64 p6, .int .i64 p7, .int .i64 p8, .int .i64 p9, .int .i64 p10, .int .i64 p11] by
        have h9 := B7.out.setsW [.int .i64 p0, .int .i64 p1, .int .i64 p2, .int .i64 p3, .int .i64 p4, .int .i64 p5, .int .i64 p6, .int .i64 p7, .int .i64 p8, .int .i64 p9, .int .i64 p10, .int .i64 p11] 0
        rw [setsA_eq _ [.int .i64 0, .int .i64 0, .int .i64 0, .int .i64 0, .int .i64 0, .int .i64 0, .int .i64 0, .int .i64 0, .int .i64 0, .int .i64 0, .int .i64 0, .int .i64 0] 0 (by simp)] at h9
        rw [hV2]; exact h9)
      clear hV2 EV
      obtain ⟨b0, b1', b2, b3, b4, b5, b6', b7, b8, b9, b10, b11, hbe⟩ := twelve HB1.out
      have HBE := Lib.hid hbe
      have HLS := Lib.hid (fun V' => by
        have h := less12_any (plusL ra.cost co xm) rb.cost V' (by rw [HPE.out]; rfl) HB1.out
        rw [HPE.out, hbe] at h
        exact (show Calls Tryd.prog 108 #[.agg #[.int .i64 p0, .int .i64 p1, .int .i64 p2, .int .i64 p3, .int .i64 p4, .int .i64 p5, .int .i64 p6, .int .i64 p7, .int .i64 p8, .int .i64 p9, .int .i64 p10, .int .i64 p11], .agg #[.int .i64 b0, .int .i64 b1', .int .i64 b2, .int .i64 b3, .int .i64 b4, .int .i64 b5, .int .i64 b6', .int .i64 b7, .int .i64 b8, .int .i64 b9, .int .i64 b10, .int .i64 b11]] V' (fun e w' => e = .returned (.bool (decide (cmpL [p0, p1, p2, p3, p4, p5, p6, p7, p8, p9, p10, p11] [b0, b1', b2, b3, b4, b5, b6', b7, b8, b9, b10, b11] < 0))) ∧ Ext V' w') from h))
      clear hbe
      rw [HPE.out, HBE.out] at HRE
      generalize decide (cmpL [p0, p1, p2, p3, p4, p5, p6, p7, p8, p9, p10, p11] [b0, b1', b2, b3, b4, b5, b6', b7, b8, b9, b10, b11] < 0) = lt at HLS HRE
      have KB := Lib.hid (fun (W : World) (h : Ext V2 W) (j : Nat) (y : Int) (hy : rb.cost[j]? = some y) => RowR.cost (RowE.ext HRX.out (E2.out.trans h)) HRB.out HB1.out hy)
      have K7 := Lib.hid (fun (W : World) (h : Ext V2 W) (j : Nat) => (B7.out.ext h).cell j)
      have kb0 := fun (W : World) (h : Ext V2 W) => (show W.cell? ⟨gr, d * 17 + 1, none⟩ = some (.int .i64 b0) from KB.out W h 0 b0 (by rw [HBE.out]; rfl))
      have kb1 := fun (W : World) (h : Ext V2 W) => (show W.cell? ⟨gr, d * 17 + 2, none⟩ = some (.int .i64 b1') from KB.out W h 1 b1' (by rw [HBE.out]; rfl))
      have kb2 := fun (W : World) (h : Ext V2 W) => (show W.cell? ⟨gr, d * 17 + 3, none⟩ = some (.int .i64 b2) from KB.out W h 2 b2 (by rw [HBE.out]; rfl))
      have kb3 := fun (W : World) (h : Ext V2 W) => (show W.cell? ⟨gr, d * 17 + 4, none⟩ = some (.int .i64 b3) from KB.out W h 3 b3 (by rw [HBE.out]; rfl))
      have kb4 := fun (W : World) (h : Ext V2 W) => (show W.cell? ⟨gr, d * 17 + 5, none⟩ = some (.int .i64 b4) from KB.out W h 4 b4 (by rw [HBE.out]; rfl))
      have kb5 := fun (W : World) (h : Ext V2 W) => (show W.cell? ⟨gr, d * 17 + 6, none⟩ = some (.int .i64 b5) from KB.out W h 5 b5 (by rw [HBE.out]; rfl))
      have kb6 := fun (W : World) (h : Ext V2 W) => (show W.cell? ⟨gr, d * 17 + 7, none⟩ = some (.int .i64 b6') from KB.out W h 6 b6' (by rw [HBE.out]; rfl))
      have kb7 := fun (W : World) (h : Ext V2 W) => (show W.cell? ⟨gr, d * 17 + 8, none⟩ = some (.int .i64 b7) from KB.out W h 7 b7 (by rw [HBE.out]; rfl))
      have kb8 := fun (W : World) (h : Ext V2 W) => (show W.cell? ⟨gr, d * 17 + 9, none⟩ = some (.int .i64 b8) from KB.out W h 8 b8 (by rw [HBE.out]; rfl))
      have kb9 := fun (W : World) (h : Ext V2 W) => (show W.cell? ⟨gr, d * 17 + 10, none⟩ = some (.int .i64 b9) from KB.out W h 9 b9 (by rw [HBE.out]; rfl))
      have kb10 := fun (W : World) (h : Ext V2 W) => (show W.cell? ⟨gr, d * 17 + 11, none⟩ = some (.int .i64 b10) from KB.out W h 10 b10 (by rw [HBE.out]; rfl))
      have kb11 := fun (W : World) (h : Ext V2 W) => (show W.cell? ⟨gr, d * 17 + 12, none⟩ = some (.int .i64 b11) from KB.out W h 11 b11 (by rw [HBE.out]; rfl))
      have kp0 := fun (W : World) (h : Ext V2 W) => (show W.cell? ⟨g7, 0, none⟩ = some (.int .i64 p0) from K7.out W h 0)
      have kp1 := fun (W : World) (h : Ext V2 W) => (show W.cell? ⟨g7, 1, none⟩ = some (.int .i64 p1) from K7.out W h 1)
      have kp2 := fun (W : World) (h : Ext V2 W) => (show W.cell? ⟨g7, 2, none⟩ = some (.int .i64 p2) from K7.out W h 2)
      have kp3 := fun (W : World) (h : Ext V2 W) => (show W.cell? ⟨g7, 3, none⟩ = some (.int .i64 p3) from K7.out W h 3)
      have kp4 := fun (W : World) (h : Ext V2 W) => (show W.cell? ⟨g7, 4, none⟩ = some (.int .i64 p4) from K7.out W h 4)
      have kp5 := fun (W : World) (h : Ext V2 W) => (show W.cell? ⟨g7, 5, none⟩ = some (.int .i64 p5) from K7.out W h 5)
      have kp6 := fun (W : World) (h : Ext V2 W) => (show W.cell? ⟨g7, 6, none⟩ = some (.int .i64 p6) from K7.out W h 6)
      have kp7 := fun (W : World) (h : Ext V2 W) => (show W.cell? ⟨g7, 7, none⟩ = some (.int .i64 p7) from K7.out W h 7)
      have kp8 := fun (W : World) (h : Ext V2 W) => (show W.cell? ⟨g7, 8, none⟩ = some (.int .i64 p8) from K7.out W h 8)
      have kp9 := fun (W : World) (h : Ext V2 W) => (show W.cell? ⟨g7, 9, none⟩ = some (.int .i64 p9) from K7.out W h 9)
      have kp10 := fun (W : World) (h : Ext V2 W) => (show W.cell? ⟨g7, 10, none⟩ = some (.int .i64 p10) from K7.out W h 10)
      have kp11 := fun (W : World) (h : Ext V2 W) => (show W.cell? ⟨g7, 11, none⟩ = some (.int .i64 p11) from K7.out W h 11)
      have m0 := fun W (h : Ext V2 W) => (BR.out.ext (E2.out.trans h)).c1
      have m1 := fun W (h : Ext V2 W) => (B6.out.ext (E2.out.trans h)).c4
      have mi := fun W (h : Ext V2 W) => RowR.is (HRX.out.ext (E2.out.trans h)) HRB.out
      cases hbi : rb.is with
      | false =>
        rw [hbi] at HRE mi
        refine wpIn_region_tame (Open.round _ _) (fun W => Ext V2 W) (fun W W' => Ext W W') (by kernel_rfl) 154 rfl 17 (by decide +kernel) (by decide +kernel) (by decide +kernel) (Ext.refl _).drew ?_
        simp only [List.take, List.map]
        repeat (apply tame_q rfl; (intro ρ W hC hr hD; (obtain ⟨hrc, hrg, hrf, hrs⟩ := hr); (simp [go_sem] at hD); go_simp; first | exact ⟨⟨hC, Ext.refl _⟩, rfl⟩ | exact ⟨⟨hC, RS.refl _⟩, rfl⟩ | exact rfl); simp only [List.nil_append, List.cons_append])
        refine tame_end_put rfl rfl (fun ρ W hC hr hF => ?_)
        simp [go_sem] at hF
        simp only [putF, hF, List.set_cons_succ, List.set_cons_zero]
        clear hF hr
        have EW := Lib.hid (E2.out.trans hC)
        clear m0 m1 mi
        have m0 := (BR.out.ext EW.out).c1
        have m1 := (B6.out.ext EW.out).c4
        have mi := RowR.is (HRX.out.ext EW.out) HRB.out
        have mb' := RowR.by' (HRX.out.ext EW.out) HRB.out
        have mf := RowE.frozen (HRX.out.ext EW.out)
        have ml := RowE.lt (HRX.out.ext EW.out)
        replace kb0 := kb0 W hC
        replace kp0 := kp0 W hC
        replace kb1 := kb1 W hC
        replace kp1 := kp1 W hC
        replace kb2 := kb2 W hC
        replace kp2 := kp2 W hC
        replace kb3 := kb3 W hC
        replace kp3 := kp3 W hC
        replace kb4 := kb4 W hC
        replace kp4 := kp4 W hC
        replace kb5 := kb5 W hC
        replace kp5 := kp5 W hC
        replace kb6 := kb6 W hC
        replace kp6 := kp6 W hC
        replace kb7 := kb7 W hC
        replace kp7 := kp7 W hC
        replace kb8 := kb8 W hC
        replace kp8 := kp8 W hC
        replace kb9 := kb9 W hC
        replace kp9 := kp9 W hC
        replace kb10 := kb10 W hC
        replace kp10 := kp10 W hC
        replace kb11 := kb11 W hC
        replace kp11 := kp11 W hC
        simp only [List.drop]
        clear hC
        gi_wp2
        change rPost _ _ _ _ _ _ _ _ _ (setsW W gr (d * 17) [.bool true, .int .i64 p0, .int .i64 p1, .int .i64 p2, .int .i64 p3, .int .i64 p4, .int .i64 p5, .int .i64 p6, .int .i64 p7, .int .i64 p8, .int .i64 p9, .int .i64 p10, .int .i64 p11, .int .i64 (s : Int), .int .i64 (d : Int), .int .i64 (i : Int), .int .i64 xm])
        have hput := RowE.put encR_len (HRX.out.ext EW.out) (k := d) (by rw [HRAL.out]; exact hdn) ⟨true, [p0, p1, p2, p3, p4, p5, p6, p7, p8, p9, p10, p11], ⟨(s : Int), (d : Int), (i : Int), xm⟩⟩
        rw [encR_lit] at hput
        have hlt := HLT.out
        have hsz2 := EW.out.size
        have hgl := HGL.out
        exact ⟨Keep.sets (X := fun k => k = gr) (g := gr) (Nat.zero_le _) rfl _ (Keep.ext EW.out (Nat.zero_le _)) _, (setsW_other (by omega) _ _ _).trans (EW.out.block _ (by omega)), (setsW_other (by omega) _ _ _).trans (EW.out.block _ (by omega)), grown_tr HG.out (setsW_grown _ (ext_row EW.out _) _), by rw [HFO.out, HRE.out]; exact hput⟩
      | true =>
        rw [hbi] at HRE mi
        cases lt with
        | true =>
          refine wpIn_region_tame (Open.round _ _) (fun W => Ext V2 W) (fun W W' => Ext W W') (by kernel_rfl) 154 rfl 17 (by decide +kernel) (by decide +kernel) (by decide +kernel) (Ext.refl _).drew ?_
          simp only [List.take, List.map]
          repeat (apply tame_q rfl; (intro ρ W hC hr hD; (obtain ⟨hrc, hrg, hrf, hrs⟩ := hr); (simp [go_sem] at hD); go_simp; first | exact ⟨⟨hC, Ext.refl _⟩, rfl⟩ | exact ⟨⟨hC, RS.refl _⟩, rfl⟩ | exact rfl); simp only [List.nil_append, List.cons_append])
          apply tame_q rfl
          · intro ρ W hC hr hD
            obtain ⟨hrc, hrg, hrf, hrs⟩ := hr
            simp [go_sem] at hD
            go_simp
            refine (HLS.out W).mono ?_
            rintro e w' ⟨rfl, hE⟩
            exact ⟨_, rfl, ⟨hC.trans hE, hE⟩, rfl⟩
          simp only [List.nil_append, List.cons_append]
          repeat (apply tame_q rfl; (intro ρ W hC hr hD; (obtain ⟨hrc, hrg, hrf, hrs⟩ := hr); (simp [go_sem] at hD); go_simp; first | exact ⟨⟨hC, Ext.refl _⟩, rfl⟩ | exact ⟨⟨hC, RS.refl _⟩, rfl⟩ | exact rfl); simp only [List.nil_append, List.cons_append])
          refine tame_end_put rfl rfl (fun ρ W hC hr hF => ?_)
          simp [go_sem] at hF
          simp only [putF, hF, List.set_cons_succ, List.set_cons_zero]
          clear hF hr
          have EW := Lib.hid (E2.out.trans hC)
          clear m0 m1 mi
          have m0 := (BR.out.ext EW.out).c1
          have m1 := (B6.out.ext EW.out).c4
          have mi := RowR.is (HRX.out.ext EW.out) HRB.out
          have mb' := RowR.by' (HRX.out.ext EW.out) HRB.out
          have mf := RowE.frozen (HRX.out.ext EW.out)
          have ml := RowE.lt (HRX.out.ext EW.out)
          replace kb0 := kb0 W hC
          replace kp0 := kp0 W hC
          replace kb1 := kb1 W hC
          replace kp1 := kp1 W hC
          replace kb2 := kb2 W hC
          replace kp2 := kp2 W hC
          replace kb3 := kb3 W hC
          replace kp3 := kp3 W hC
          replace kb4 := kb4 W hC
          replace kp4 := kp4 W hC
          replace kb5 := kb5 W hC
          replace kp5 := kp5 W hC
          replace kb6 := kb6 W hC
          replace kp6 := kp6 W hC
          replace kb7 := kb7 W hC
          replace kp7 := kp7 W hC
          replace kb8 := kb8 W hC
          replace kp8 := kp8 W hC
          replace kb9 := kb9 W hC
          replace kp9 := kp9 W hC
          replace kb10 := kb10 W hC
          replace kp10 := kp10 W hC
          replace kb11 := kb11 W hC
          replace kp11 := kp11 W hC
          simp only [List.drop]
          clear hC
          gi_wp2
          change rPost _ _ _ _ _ _ _ _ _ (setsW W gr (d * 17) [.bool true, .int .i64 p0, .int .i64 p1, .int .i64 p2, .int .i64 p3, .int .i64 p4, .int .i64 p5, .int .i64 p6, .int .i64 p7, .int .i64 p8, .int .i64 p9, .int .i64 p10, .int .i64 p11, .int .i64 (s : Int), .int .i64 (d : Int), .int .i64 (i : Int), .int .i64 xm])
          have hput := RowE.put encR_len (HRX.out.ext EW.out) (k := d) (by rw [HRAL.out]; exact hdn) ⟨true, [p0, p1, p2, p3, p4, p5, p6, p7, p8, p9, p10, p11], ⟨(s : Int), (d : Int), (i : Int), xm⟩⟩
          rw [encR_lit] at hput
          have hlt := HLT.out
          have hsz2 := EW.out.size
          have hgl := HGL.out
          exact ⟨Keep.sets (X := fun k => k = gr) (g := gr) (Nat.zero_le _) rfl _ (Keep.ext EW.out (Nat.zero_le _)) _, (setsW_other (by omega) _ _ _).trans (EW.out.block _ (by omega)), (setsW_other (by omega) _ _ _).trans (EW.out.block _ (by omega)), grown_tr HG.out (setsW_grown _ (ext_row EW.out _) _), by rw [HFO.out, HRE.out]; exact hput⟩
        | false =>
          refine wpIn_region_tame (Open.round _ _) (fun W => Ext V2 W) (fun W W' => Ext W W') (by kernel_rfl) 154 rfl 17 (by decide +kernel) (by decide +kernel) (by decide +kernel) (Ext.refl _).drew ?_
          simp only [List.take, List.map]
          repeat (apply tame_q rfl; (intro ρ W hC hr hD; (obtain ⟨hrc, hrg, hrf, hrs⟩ := hr); (simp [go_sem] at hD); go_simp; first | exact ⟨⟨hC, Ext.refl _⟩, rfl⟩ | exact ⟨⟨hC, RS.refl _⟩, rfl⟩ | exact rfl); simp only [List.nil_append, List.cons_append])
          apply tame_q rfl
          · intro ρ W hC hr hD
            obtain ⟨hrc, hrg, hrf, hrs⟩ := hr
            simp [go_sem] at hD
            go_simp
            refine (HLS.out W).mono ?_
            rintro e w' ⟨rfl, hE⟩
            exact ⟨_, rfl, ⟨hC.trans hE, hE⟩, rfl⟩
          simp only [List.nil_append, List.cons_append]
          repeat (apply tame_q rfl; (intro ρ W hC hr hD; (obtain ⟨hrc, hrg, hrf, hrs⟩ := hr); (simp [go_sem] at hD); go_simp; first | exact ⟨⟨hC, Ext.refl _⟩, rfl⟩ | exact ⟨⟨hC, RS.refl _⟩, rfl⟩ | exact rfl); simp only [List.nil_append, List.cons_append])
          refine tame_end_put rfl rfl (fun ρ W hC hr hF => ?_)
          simp [go_sem] at hF
          simp only [putF, hF, List.set_cons_succ, List.set_cons_zero]
          clear hF hr
          have EW := Lib.hid (E2.out.trans hC)
          simp only [List.drop]
          clear hC
          gi_wp2
          have hlt := HLT.out
          exact ⟨Keep.ext EW.out (Nat.zero_le _), EW.out.block _ (by omega), EW.out.block _ (by omega), grown_tr HG.out (ext_row EW.out _), by rw [HFO.out, HRE.out]; exact HRX.out.ext EW.out⟩
  · rintro W ⟨hG, hRX⟩ hlt hK
    go_wp2
    exact HQ.out _ _ ⟨rfl, by show _ :: _ = _; rw [hz1], by simp [Act.eval]⟩ (grown_tr (ext_row E1.out _) hG) hRX (by rw [← hz1]; exact hK)
  · rintro c pre W _ h
    exact h.elim
end Go.Proofs.YtafdbgielmlihaaDoor
/- market.closed, part two: the way back. -/
namespace Go.Proofs.YtafdbgielmlihaaDoor
open Go.RowKit Go.Shelf Go.Lib
set_option maxRecDepth 100000
set_option linter.unusedSimpArgs false

set_option maxHeartbeats 4000000 in
theorem back_wp {c : Chn} {M : List Int} {f : Nat → Int} {R : List Rch} {σ : BF} {mb b1 bl br gr gm n k t r b0 : Nat} {rt : Rch} {hv sv cv : Value} {w : World} {a0 : Act} {ds : List Deferred} {Q : Exit → Act → World → Prop}
    (hml : M.length = c.sales.length) (hmb : ∀ y ∈ M, -9 ≤ y ∧ y ≤ 9) (hCr : Corr f n R σ) (hOk : OkR c R) (hn : n = c.houses.length) (hk : backK σ.p k t = some r) (hr : σ.p r = none) (hkn : k ≤ 1000)
    (hF : Fr 154 [(0, .pointer (some ⟨mb, 0, none⟩)), (1, .pointer (some ⟨b1, 0, none⟩)), (2, .pointer (some ⟨bl, 0, none⟩)), (3, .pointer (some ⟨br, 0, none⟩)), (8, .int .i64 (t : Int)), (10, .pointer (some ⟨b0, 0, none⟩))] ds a0)
    (h1 : Blk w b1 109 #[.pointer (some ⟨mb, 0, none⟩)]) (hbr : Blk w br 150 #[.slice (some ⟨gr, 0, none⟩) n n]) (hM : Blk w mb 112 #[hv, sv, .slice (some ⟨gm, 0, none⟩) M.length M.length, cv]) (hRM : RowI w gm M) (hRW : RowR w gr R)
    (hrt : R[t]? = some rt) (hB0 : Blk w b0 152 #[.int .i64 rt.by'.src, .int .i64 rt.by'.dst, .int .i64 rt.by'.sale, .int .i64 rt.by'.more])
    (x1 : gm ≠ b1) (x2 : gm ≠ br) (x3 : gm ≠ mb) (x4 : gm ≠ gr) (x5 : b0 ≠ gm)
    (hQ : ∀ A' W', Fr 154 [(0, .pointer (some ⟨mb, 0, none⟩)), (1, .pointer (some ⟨b1, 0, none⟩)), (2, .pointer (some ⟨bl, 0, none⟩)), (3, .pointer (some ⟨br, 0, none⟩)), (8, .int .i64 (r : Int))] ds A' →
      w.grownBy W' (some gm) → RowI W' gm (walked M (chainArcs σ.p k t)) → Q .normal A' W') :
    (subC [1, 1, 1, 2, 3, 2, 1, 1, 1, 1, 1, 1, 0, 1] (Tryd.f87.body.getD .skip)).wp Tryd.prog Q a0 w := by
  have hRl := hCr.len
  have H1 := Lib.hid h1; have HBR := Lib.hid hbr; have HM := Lib.hid hM; have HRM := Lib.hid hRM; have HRW := Lib.hid hRW; have HQ := Lib.hid hQ; have HML := Lib.hid hml; have HMB := Lib.hid hmb; have HCR := Lib.hid hCr; have HOK := Lib.hid hOk; have HN := Lib.hid hn; have HK := Lib.hid hk; have HR := Lib.hid hr; have HRL := Lib.hid hRl; have HRT := Lib.hid hrt
  clear h1 hbr hM hRM hRW hQ hml hmb hCr hOk hn hk hr hRl hrt
  delta Tryd.f87
  simp only [subC, Option.getD_some]
  obtain ⟨ρ, rfl, hρ⟩ := hF.open_
  simp only [List.forall_mem_cons] at hρ
  obtain ⟨r0, r1, r2, r3, r8, r10, -⟩ := hρ
  simp only [lst, r0, r1, r2, r3, r8, r10]
  clear r0 r1 r2 r3 r8 r10 hF
  have BS := Lib.hid hB0
  clear hB0
  go_wp2
  refine wp_loop_ghost_k (fun g A W => ∃ (j u : Nat) (x : Rch) (bs : Nat), j ≤ k ∧ k - j ≤ g ∧ backK σ.p j t = some u ∧ R[u]? = some x ∧ Fr 154 [(0, .pointer (some ⟨mb, 0, none⟩)), (1, .pointer (some ⟨b1, 0, none⟩)), (2, .pointer (some ⟨bl, 0, none⟩)), (3, .pointer (some ⟨br, 0, none⟩)), (8, .int .i64 (u : Int)), (10, .pointer (some ⟨bs, 0, none⟩))] ds A ∧
    Blk W bs 152 #[.int .i64 x.by'.src, .int .i64 x.by'.dst, .int .i64 x.by'.sale, .int .i64 x.by'.more] ∧ bs ≠ gm ∧ w.grownBy W (some gm) ∧ RowI W gm (walked M (chainArcs σ.p j t))) k ?_ ?_
  · exact ⟨0, t, rt, b0, by omega, by omega, rfl, HRT.out, ⟨rfl, rfl, by simp [Act.eval]⟩, BS.out, x5, World.grownBy.refl _ _, HRM.out⟩
  · rintro g A W ⟨j, u, x, bs, hj, hg, hb, hx, hF, hB, hbs, hG, hRM⟩ J K hJ hK
    have HB := Lib.hid hb; have HX := Lib.hid hx; have HBS := Lib.hid hB; have HG := Lib.hid hG; have HRJ := Lib.hid hRM; have HJ := Lib.hid hJ
    have hun : u < n := by have := (List.getElem?_eq_some_iff.1 hx).1; have := HRL.out; omega
    have B1 := Lib.hid (H1.out.grown hG (by intro e; injection e with e; exact x1 e.symm))
    have BR := Lib.hid (HBR.out.grown hG (by intro e; injection e with e; exact x2 e.symm))
    have BM := Lib.hid (HM.out.grown hG (by intro e; injection e with e; exact x3 e.symm))
    have BRW := Lib.hid (show RowR W gr R from Blk.grown HRW.out hG (by intro e; injection e with e; exact x4 e.symm))
    obtain ⟨ρ, rfl, hρ⟩ := hF.open_
    simp only [List.forall_mem_cons] at hρ
    obtain ⟨r0, r1, r2, r3, r8, r10, -⟩ := hρ
    simp only [lst, r0, r1, r2, r3, r8, r10]
    clear r0 r1 r2 r3 r8 r10 hF hb hx hB hG hRM hJ
    obtain ⟨z0, z1, z2, z3, zf, zl⟩ := HBS.out.c4
    by_cases hs : 0 ≤ x.by'.sale
    · obtain ⟨o1, o2, o3, o4, o5, o6, o7⟩ := HOK.out x (List.mem_of_getElem? HX.out) hs
      have hp : σ.p u = some (toArc f x.by') := by rw [HCR.out.p u x HX.out, if_pos hs]
      have hjk := back_not_end HB.out hp HK.out HR.out hj
      obtain ⟨⟨xs, xd, xi, xm⟩, hby⟩ : ∃ y, x.by' = y := ⟨_, rfl⟩
      rw [hby] at o1 o2 o3 o4 o5 o6 o7 hs hp HBS z0 z1 z2 z3
      simp only at o1 o2 o3 o4 o5 o6 o7 hs HBS z0 z1 z2 z3
      obtain ⟨s, rfl⟩ : ∃ s : Nat, xs = s := ⟨xs.toNat, by omega⟩
      obtain ⟨i, rfl⟩ : ∃ s : Nat, xi = s := ⟨xi.toNat, by omega⟩
      have hsn : s < n := by have := HN.out; omega
      have hwl : (walked M (chainArcs σ.p j t)).length = M.length := by
        have key : ∀ (L : List Arc) (m : List Int), (walked m L).length = m.length := by
          intro L
          induction L with
          | nil => intro m; rfl
          | cons a L ih =>
            intro m
            show (walked (stepM m a) L).length = _
            rw [ih]
            unfold stepM
            split <;> exact bump_len _ _ _
        exact key _ _
      have hiM : i < M.length := by have := HML.out; omega
      obtain ⟨y, hy⟩ : ∃ y, (walked M (chainArcs σ.p j t))[i]? = some y := ⟨_, List.getElem?_eq_getElem (by omega)⟩
      have hyb := walked_bd (chainArcs σ.p j t) HMB.out y (List.mem_of_getElem? hy)
      have hcl := chain_len σ.p j t
      obtain ⟨x', hx'⟩ : ∃ r, R[s]? = some r := ⟨_, List.getElem?_eq_getElem (by have := HRL.out; omega)⟩
      have HB2 := Lib.hid (show backK σ.p (j + 1) t = some s by rw [back_snoc HB.out hp]; simp [toArc])
      have HW2 := Lib.hid (show walked M (chainArcs σ.p (j + 1) t) = (walked M (chainArcs σ.p j t)).set i (y + xm) by
        rw [chain_snoc j t u _ HB.out hp, walked_snoc, toArc_step f _ _ (by omega) o7]
        exact bump_set (by simpa using hy))
      have hw1 : IntKind.i64.wrap (y + xm) = y + xm := by rw [IntKind.wrap_i64]; omega
      have hiz : (i : Int) < (M.length : Int) := by omega
      have hsz : (s : Int) < (n : Int) := by omega
      have HY := Lib.hid hy; have HX' := Lib.hid hx'; have HJK := Lib.hid hjk
      have HYB := Lib.hid (show -2000 ≤ y ∧ y ≤ 2000 by omega)
      clear hp hjk hwl hy hx' o1 o2 o3 o4 o5 o6 hyb hcl hby
      have m0 := fun V (h : Ext W V) => (B1.out.ext h).c1
      have m1 := fun V (h : Ext W V) => (BM.out.ext h).c4
      have m2 := fun V (h : Ext W V) => (HBS.out.ext h).c4
      have m3 := fun V (h : Ext W V) => (HRJ.out.ext h).cell HY.out
      obtain ⟨V, hV⟩ : ∃ V, V = W := ⟨_, rfl⟩
      subst hV
      go_wp2
      refine wp_region_tame_cut (fun W => Ext V W) (fun W W' => Ext W W') (by kernel_rfl) 154 rfl _ rfl (by decide +kernel) (by decide +kernel) (by decide +kernel) rfl (Ext.refl _).drew ?_
      simp only [List.dropLast]
      repeat (apply tame_q rfl; (intro ρ W hC hr hD; (obtain ⟨hrc, hrg, hrf, hrs⟩ := hr); (simp [go_sem] at hD); go_simp; first | exact ⟨⟨hC, Ext.refl _⟩, rfl⟩ | exact ⟨⟨hC, RS.refl _⟩, rfl⟩ | exact rfl); simp only [List.nil_append, List.cons_append])
      refine tame_end_put rfl rfl (fun ρ W hC hr hF => ?_)
      simp [go_sem] at hF
      simp only [putF, hF, List.set_cons_succ, List.set_cons_zero]
      clear hF hr
      have EW := Lib.hid hC
      clear hC m0 m1 m2 m3 z0 z1 z2 z3 zf zl
      have HBW := Lib.hid (HBS.out.ext EW.out)
      have HRW' := Lib.hid (HRJ.out.ext EW.out)
      have z3 := HRW'.out.cell HY.out
      have zf := HRW'.out.frozen
      have zl := HRW'.out.lt
      obtain ⟨v0, v1, v2, v3, vf, vl⟩ := HBW.out.c4
      have u0 := (BR.out.ext EW.out).c1
      obtain ⟨u1, u2, u3, u4⟩ := RowR.by' (BRW.out.ext EW.out) HX'.out
      have hgl := HRM.out.lt
      have n1 : ¬ bs = gm := hbs
      have n2 : ¬ br = gm := fun e => x2 e.symm
      have n3 : ¬ gr = gm := fun e => x4 e.symm
      have hsl : bs < W.heap.size := vl
      have hgw : gm < W.heap.size := zl
      have hgr : gr < W.heap.size := RowE.lt (BRW.out.ext EW.out)
      have hbr' : br < W.heap.size := u0.2.2
      go_wp2
      have hs1 := HG.out.size
      have hs2 := EW.out.size
      refine Handed.intro (k - (j + 1)) (by have := HJK.out; omega) (HJ.out _ _ _ ⟨j + 1, s, x', W.heap.size, by have := HJK.out; omega, Nat.le_refl _, HB2.out, HX'.out, ⟨rfl, rfl, by simp [Act.eval]⟩, Blk.at_ (by simp [World.setCell]), by omega, ?_, ?_⟩)
      · exact grown_ext (grown_set (grown_ext HG.out EW.out) (p := ⟨gm, i, none⟩) (.inl rfl) _) (Ext.al _ _)
      · rw [HW2.out]; exact (HRW'.out.set _ _).alloc _
    · have hp : σ.p u = none := by rw [HCR.out.p u x HX.out, if_neg hs]
      have HE := Lib.hid (back_end HB.out hp HK.out hj)
      clear hp
      go_wp2
      obtain ⟨rfl, rfl⟩ := HE.out
      exact HQ.out _ _ ⟨rfl, rfl, by simp [Act.eval]⟩ HG.out HRJ.out
end Go.Proofs.YtafdbgielmlihaaDoor
/- first, at losses: a house and a number of pence. -/
namespace Go.Proofs.YtafdbgielmlihaaDoor
open Go.RowKit Go.Shelf Go.Lib
set_option maxRecDepth 100000
set_option linter.unusedSimpArgs false
attribute [local go_sem] Oper.semAt_some

abbrev valLo (x : Int × Int) : Value := .agg #[.int .i64 x.1, .int .i64 x.2]
theorem store2 {wr W : World} {g : Nat} {t : TypeId} {x0 x1 : Value} (hg : wr.grownBy W (some g)) (h : Blk W g t #[x0, x1]) (y0 y1 : Value) :
    CR (fun W => CS wr g t 2 W) (fun W W' => RS g t #[y0, y1] W W') W ((W.setCell ⟨g, 0, none⟩ y0).setCell ⟨g, 1, none⟩ y1) ∧ Blk ((W.setCell ⟨g, 0, none⟩ y0).setCell ⟨g, 1, none⟩ y1) g t #[y0, y1] := by
  have hB : Blk ((W.setCell ⟨g, 0, none⟩ y0).setCell ⟨g, 1, none⟩ y1) g t #[y0, y1] := by
    have := (h.set_ 0 y0).set_ 1 y1
    simpa using this
  exact ⟨⟨⟨grown_set (grown_set hg (p := ⟨g, 0, none⟩) (.inl rfl) y0) (p := ⟨g, 1, none⟩) (.inl rfl) y1, _, hB, rfl⟩, grown_set (grown_set (World.grownBy.refl _ _) (p := ⟨g, 0, none⟩) (.inl rfl) y0) (p := ⟨g, 1, none⟩) (.inl rfl) y1, fun _ => hB⟩, hB⟩
set_option maxHeartbeats 2000000 in
theorem firstL_any {gf tf : FuncId} {lb tlb : Array Value} (eg : ∀ args w, (callFunc gf args).run Tryd.prog w = .ok (.enter gf args) w) (et : ∀ args w, (callFunc tf args).run Tryd.prog w = .ok (.enter tf args) w)
    {xs : List (Int × Int)} {ord : Int × Int → Int × Int → Int} {w : World} (hseq : Seqs Tryd.prog gf lb w.heap.size (fun k => k = w.heap.size + 2 ∨ k = w.heap.size + 3) (fun (x : Int × Int) v _ => v = valLo x) xs w)
    (htest : ∀ x ∈ xs, ∀ y ∈ xs, ∀ W, Below w.heap.size w W → Calls Tryd.prog tf (#[valLo x, valLo y] ++ tlb) W fun e W' => e = .returned (.int .i64 (ord x y)) ∧ Ext W W') :
    Calls Tryd.prog 96 #[.func (.func gf) #[] lb, .func (.func tf) #[] tlb] w fun e w' => e = .returned (.tuple #[valLo ((firstO ord xs).getD (0, 0)), .bool (firstO ord xs).isSome]) ∧ Below w.heap.size w w' := by
  refine calls_of_wp_marks Tryd.func96 rfl ?_
  simp only [Tryd.ntmps96, List.size_toArray, List.length_cons, List.length_nil, Nat.reduceAdd, Nat.reduceSub, Array.replicate_succ, Array.replicate_zero, List.push_toArray, List.append_toArray, List.nil_append, List.cons_append]
  go_wp2_with fail
  generalize hw3 : ((((w.alloc (.cells #[.func (.func tf) #[] tlb] 140)).alloc (.cells #[.int .i64 0, .int .i64 0] 134)).alloc (.cells #[.int .i64 0, .int .i64 0] 134)).alloc (.cells #[.bool false] 4)) = w3
  have E3 : Ext w w3 := by rw [← hw3]; exact (((Ext.al _ _).alloc _).alloc _).alloc _
  have hz3 : w3.heap.size = w.heap.size + 4 := by rw [← hw3]; simp
  have B0 : Blk w3 w.heap.size 140 #[.func (.func tf) #[] tlb] := by rw [← hw3]; exact (((Blk.new _ _ _).alloc _).alloc _).alloc _
  have BR : Blk w3 (w.heap.size + 1) 134 #[.int .i64 0, .int .i64 0] := by rw [← hw3]; exact ((Blk.at_ (by simp)).alloc _).alloc _
  have B1 : Blk w3 (w.heap.size + 1 + 1) 134 #[.int .i64 0, .int .i64 0] := by rw [← hw3]; exact (Blk.at_ (by simp)).alloc _
  have B2 : Blk w3 (w.heap.size + 1 + 1 + 1) 4 #[.bool false] := by rw [← hw3]; exact Blk.at_ (by simp)
  refine wp_rangeFuncB (by rfl) eg hseq E3 (by omega)
    (fun pre W => Blk W w.heap.size 140 #[.func (.func tf) #[] tlb] ∧ Blk W (w.heap.size + 1 + 1) 134 #[.int .i64 ((firstO ord pre).getD (0, 0)).1, .int .i64 ((firstO ord pre).getD (0, 0)).2] ∧ Blk W (w.heap.size + 1 + 1 + 1) 4 #[.bool (firstO ord pre).isSome] ∧ Below w.heap.size w W ∧ Blk W (w.heap.size + 1) 134 #[.int .i64 0, .int .i64 0])
    (fun _ _ _ => False)
    ?_ ?_ ?_ (fun x _ A W => ∃ g, w3.heap.size + 1 < g ∧ Blk W g 134 #[.int .i64 x.1, .int .i64 x.2] ∧ A = { tmps := #[.func (.func gf) #[] lb, .func (.func tf) #[] tlb, undef, .pointer (some ⟨w.heap.size, 0, none⟩), .pointer (some ⟨w.heap.size + 1, 0, none⟩), .bool false, .pointer (some ⟨w.heap.size + 1 + 1, 0, none⟩), .pointer (some ⟨w.heap.size + 1 + 1 + 1, 0, none⟩), .pointer (some ⟨g, 0, none⟩), .func (.func gf) #[] lb, valLo x, undef, undef, undef, undef, undef, undef, undef, undef, undef, undef, undef, undef], defers := [] }) ?_ ?_ ?_ ?_ ?_
  · rintro pre A B ⟨h2, h3, h4, h5, h6⟩ hA hT
    exact ⟨h2.turn hT (by omega) (by omega), h3.turn hT (by omega) (by omega), h4.turn hT (by omega) (by omega), hT.below h5 (by omega) (by omega), h6.turn hT (by omega) (by omega)⟩
  · rintro c pre A B h
    exact h.elim
  · intro W hW
    exact ⟨B0.ext hW, B1.ext hW, B2.ext hW, E3.trans hW, BR.ext hW⟩
  · rintro x v A W W' ⟨g, h1, h2, h3⟩ _ hT
    exact ⟨g, h1, h2.turn hT (by omega) (by omega), h3⟩
  · rintro m l pre x v W K hi hv hpre hlt hK
    subst hv
    clear hi
    gi_wp2
    exact hK _ _ (Ext.al _ _) ⟨W.heap.size, by omega, Blk.new _ _ _, rfl⟩
  · rintro m l pre x v A W ⟨h2, h3, h4, h5, h6⟩ ⟨g, hg, hB, rfl⟩ hpre hlt hd hr
    have hx : x ∈ xs := by
      obtain ⟨q, hq⟩ := hpre
      rw [← hq]; simp
    have hpx : ∀ y ∈ pre, y ∈ xs := by
      obtain ⟨q, hq⟩ := hpre
      intro y hy
      rw [← hq]; simp [hy]
    have H2 := Lib.hid h2; have H3 := Lib.hid h3; have H4 := Lib.hid h4; have H5 := Lib.hid h5; have H6 := Lib.hid h6; have HBX := Lib.hid hB
    have HS := Lib.hid (firstO_snoc ord pre x)
    obtain ⟨x0, -, l0⟩ := H2.out.c1
    obtain ⟨x1, x1', f1, l1⟩ := H3.out.c2
    obtain ⟨x2, f2, l2⟩ := H4.out.c1
    obtain ⟨y0, y1, yf, yl⟩ := HBX.out.c2
    have HLT := Lib.hid hlt; have HG := Lib.hid hg
    have HPX := Lib.hid hpx; have HXX := Lib.hid hx
    have HTE := Lib.hid htest
    clear hpre hd hr h2 h3 h4 h5 h6 hB B0 B1 B2 BR hseq hlt hpx hx htest
    cases hacc : firstO ord pre with
    | none =>
      rw [hacc] at x1 x1' x2
      have HSN := Lib.hid (show firstO ord (pre ++ [x]) = some x by rw [HS.out, hacc]; rfl)
      clear hacc
      simp only [Option.getD, Option.isSome] at x1 x1' x2
      gi_wp2
      refine ⟨fun _ h => (by cases h), ?_⟩
      gi_wp2
      have hw := H5.out.size
      have hlt := HLT.out
      have he := Below.size (Ext.refl W)
      refine ⟨(((Keep.ext (Ext.refl W) hw).setCell (by dsimp only; omega) (.inl (by dsimp only)) _).setCell (by dsimp only; omega) (.inl (by dsimp only)) _).setCell (by dsimp only; omega) (.inr (by dsimp only)) _, ?_, ?_, (((H2.out.ext (Ext.refl W)).far (by dsimp only; omega) _).far (by dsimp only; omega) _).far (by dsimp only; omega) _, ?_, ?_, (((H5.out.trans (Below.mono (Ext.refl W) hw)).setCell (by dsimp only; omega) _).setCell (by dsimp only; omega) _).setCell (by dsimp only; omega) _, (((H6.out.ext (Ext.refl W)).far (by dsimp only; omega) _).far (by dsimp only; omega) _).far (by dsimp only; omega) _⟩
      · exact (Below.heap_setCell _ _ _ _ (by dsimp only; omega)).trans ((Below.heap_setCell _ _ _ _ (by dsimp only; omega)).trans ((Below.heap_setCell _ _ _ _ (by dsimp only; omega)).trans (Below.block (Ext.refl W) _ (by omega))))
      · exact (Below.heap_setCell _ _ _ _ (by dsimp only; omega)).trans ((Below.heap_setCell _ _ _ _ (by dsimp only; omega)).trans ((Below.heap_setCell _ _ _ _ (by dsimp only; omega)).trans (Below.block (Ext.refl W) _ (by omega))))
      · rw [HSN.out]; exact (((H3.out.ext (Ext.refl W)).set_ 0 _).set_ 1 _).far (by dsimp only; omega) _
      · rw [HSN.out]; exact (((H4.out.ext (Ext.refl W)).far (by dsimp only; omega) _).far (by dsimp only; omega) _).set_ 0 _
    | some b =>
      rw [hacc] at x1 x1' x2
      have hb := firstO_mem ord pre b hacc
      have HTB := Lib.hid (HTE.out x HXX.out b (HPX.out b hb) W H5.out)
      have HSN := Lib.hid (show firstO ord (pre ++ [x]) = if ord x b < 0 then some x else some b by rw [HS.out, hacc]; rfl)
      have HAC := Lib.hid hacc
      clear hacc hb
      simp only [Option.getD, Option.isSome] at x1 x1' x2
      gi_wp2_with fail
      refine ⟨trivial, wide_depth _, ?_⟩
      refine (CallsIn.inRound l (callsIn_wide.2 HTB.out)).mono ?_
      rintro e W1 ⟨rfl, hE⟩
      have HE := Lib.hid hE
      clear hE x0 x1 x1' f1 l1 x2 f2 l2 y0 y1 yf yl
      obtain ⟨x1, x1', f1, l1⟩ := (H3.out.ext HE.out).c2
      obtain ⟨x2, f2, l2⟩ := (H4.out.ext HE.out).c1
      obtain ⟨y0, y1, yf, yl⟩ := (HBX.out.ext HE.out).c2
      by_cases hlt : ord x b < 0
      · have HSM := Lib.hid (show firstO ord (pre ++ [x]) = some x by rw [HSN.out, if_pos hlt])
        gi_wp2
        have hw := H5.out.size
        have hlt := HLT.out
        have he := Below.size (HE.out)
        refine ⟨(((Keep.ext (HE.out) hw).setCell (by dsimp only; omega) (.inl (by dsimp only)) _).setCell (by dsimp only; omega) (.inl (by dsimp only)) _).setCell (by dsimp only; omega) (.inr (by dsimp only)) _, ?_, ?_, (((H2.out.ext (HE.out)).far (by dsimp only; omega) _).far (by dsimp only; omega) _).far (by dsimp only; omega) _, ?_, ?_, (((H5.out.trans (Below.mono (HE.out) hw)).setCell (by dsimp only; omega) _).setCell (by dsimp only; omega) _).setCell (by dsimp only; omega) _, (((H6.out.ext (HE.out)).far (by dsimp only; omega) _).far (by dsimp only; omega) _).far (by dsimp only; omega) _⟩
        · exact (Below.heap_setCell _ _ _ _ (by dsimp only; omega)).trans ((Below.heap_setCell _ _ _ _ (by dsimp only; omega)).trans ((Below.heap_setCell _ _ _ _ (by dsimp only; omega)).trans (Below.block (HE.out) _ (by omega))))
        · exact (Below.heap_setCell _ _ _ _ (by dsimp only; omega)).trans ((Below.heap_setCell _ _ _ _ (by dsimp only; omega)).trans ((Below.heap_setCell _ _ _ _ (by dsimp only; omega)).trans (Below.block (HE.out) _ (by omega))))
        · rw [HSM.out]; exact (((H3.out.ext (HE.out)).set_ 0 _).set_ 1 _).far (by dsimp only; omega) _
        · rw [HSM.out]; exact (((H4.out.ext (HE.out)).far (by dsimp only; omega) _).far (by dsimp only; omega) _).set_ 0 _
      · have HSM := Lib.hid (show firstO ord (pre ++ [x]) = some b by rw [HSN.out, if_neg hlt])
        gi_wp2
        have hw := H5.out.size
        have hlt := HLT.out
        exact ⟨Keep.ext HE.out hw, HE.out.block _ (by omega), HE.out.block _ (by omega), H2.out.ext HE.out, by rw [HSM.out, ← HAC.out]; exact H3.out.ext HE.out, by rw [HSM.out, ← HAC.out]; exact H4.out.ext HE.out, H5.out.trans (HE.out.mono hw), H6.out.ext HE.out⟩
  · rintro V ⟨h2, h3, h4, h5, h6⟩ hlt hK
    obtain ⟨fo, hfo⟩ : ∃ fo, firstO ord xs = fo := ⟨_, rfl⟩
    rw [hfo] at h3 h4
    have HFO := Lib.hid hfo
    clear hfo
    have H3 := Lib.hid h3; have H4 := Lib.hid h4; have H5 := Lib.hid h5; have HKK := Lib.hid hK; have H6 := Lib.hid h6
    clear h2 h3 h4 h5 h6 B0 B1 B2 BR hK hseq htest E3
    have hz := H5.out.size
    obtain ⟨a0, a1, -, -⟩ := H3.out.c2
    obtain ⟨d0, -, -⟩ := H4.out.c1
    have q0 := fun W (h : CS V (w.heap.size + 1) 134 2 W) => (h.cell (b := w.heap.size + 1 + 1) (by omega) (by omega) 0).trans a0
    have q1 := fun W (h : CS V (w.heap.size + 1) 134 2 W) => (h.cell (b := w.heap.size + 1 + 1) (by omega) (by omega) 1).trans a1
    have q2 := fun W (h : CS V (w.heap.size + 1) 134 2 W) => (h.cell (b := w.heap.size + 1 + 1 + 1) (by omega) (by omega) 0).trans d0
    have HST := Lib.hid (CS.start H6.out)
    clear a0 a1 d0
    go_wp2
    refine wp_region_tame (fun W => CS V (w.heap.size + 1) 134 2 W) (fun W W' => RS (w.heap.size + 1) 134 #[.int .i64 (fo.getD (0, 0)).1, .int .i64 (fo.getD (0, 0)).2] W W') (by kernel_rfl) 23 rfl (by decide +kernel) HST.out ?_
    repeat
      (apply tame_q rfl
       (intro ρ W hC hr hD
        obtain ⟨hrc, hrg, hrf, hrs⟩ := hr
        simp [go_sem] at hD
        go_simp
        first | exact ⟨⟨hC, RS.refl _⟩, rfl⟩ | exact rfl)
       simp only [List.nil_append, List.cons_append])
    apply tame_n (fun _ W => Blk W (w.heap.size + 1) 134 #[.int .i64 (fo.getD (0, 0)).1, .int .i64 (fo.getD (0, 0)).2]) (fun _ W W' _ hR h => hR.2 h)
    · intro ρ W hC hr hD
      obtain ⟨hrc, hrg, hrf, hrs⟩ := hr
      simp [go_sem] at hD
      obtain ⟨hg1, cs0, hB, hsz⟩ := hC
      obtain ⟨cs0⟩ := cs0
      obtain ⟨x0, x1, rfl⟩ : ∃ x0 x1, cs0 = [x0, x1] := by
        match cs0, hsz with
        | [x0, x1], _ => exact ⟨_, _, rfl⟩
      obtain ⟨b0, b1, bf, bl⟩ := hB.c2
      have HB := Lib.hid hB; have HG1 := Lib.hid hg1; clear hB hg1
      go_simp
      exact store2 HG1.out HB.out _ _
    simp only [List.nil_append, List.cons_append]
    repeat
      (apply tame_q rfl
       (intro ρ W hC hr hD
        obtain ⟨hrc, hrg, hrf, hrs⟩ := hr
        simp [go_sem] at hD
        go_simp
        first | exact ⟨⟨hC, RS.refl _⟩, rfl⟩ | exact rfl)
       simp only [List.nil_append, List.cons_append])
    refine tame_end 23 rfl rfl (fun ρ W hC hr hF => ?_)
    obtain ⟨hrc, hrg, hrf, hrs⟩ := hr
    have hBF : Blk W (w.heap.size + 1) 134 #[.int .i64 (fo.getD (0, 0)).1, .int .i64 (fo.getD (0, 0)).2] := hF.2.2.1
    have HBF := Lib.hid hBF; clear hBF
    simp [go_sem] at hF
    apply frame_to
    · go_simp
      exact rfl
    clear hF hrs hrc hrg hrf
    have HC := Lib.hid hC.1
    clear hC q0 q1 q2
    have hK' := (HC.out.block w3.heap.size (by omega) (by intro e; injection e with e; omega)).trans HKK.out
    have hbel : Below w.heap.size w W := H5.out.grown HC.out (by omega) (fun k e => by injection e with e; omega)
    obtain ⟨b0, b1, -, hbl⟩ := HBF.out.c2
    go_wp2
    refine ⟨by simp, .inl ⟨_, _, rfl, run_takeDeferred hK', ?_⟩⟩
    have hT := Turn.put0 (s := w3.heap.size) W (.deferred none)
    have e0 := (hT.cell (b := w.heap.size + 1) (i := 0) (by omega) hbl).trans b0
    have e1 := (hT.cell (b := w.heap.size + 1) (i := 1) (by omega) hbl).trans b1
    have hTB := Turn.below hbel hT (by omega) hbel.size
    clear hT b0 b1
    refine ⟨.tuple #[valLo (fo.getD (0, 0)), .bool fo.isSome], ?_, by rw [HFO.out], hTB⟩
    rw [results_cell_tmp rfl]
    rw [hz3] at e0 e1 ⊢
    go_simp
  · rintro c pre W _ h
    exact h.elim
end Go.Proofs.YtafdbgielmlihaaDoor
