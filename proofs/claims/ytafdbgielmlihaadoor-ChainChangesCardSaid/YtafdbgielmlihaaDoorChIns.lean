/- slices.Insert at sales: one sale into a row of the call's own. -/
import Derived.Test.YtafdbgielmlihaaDoorChE
namespace Go.Proofs.YtafdbgielmlihaaDoor
open Go.RowKit Go.Shelf Go.Lib
set_option maxRecDepth 100000
set_option linter.unusedSimpArgs false

theorem encL_1 : ∀ x, ∀ u ∈ encL x, u.oneCell' = true := by
  intro x u hu
  simp only [encL, List.mem_cons, List.not_mem_nil, or_false] at hu
  rcases hu with rfl | rfl | rfl | rfl | rfl <;> rfl
theorem flatL_1 (l : List Sale) : ∀ u ∈ l.flatMap encL, u.oneCell' = true := by
  intro u hu
  obtain ⟨x, _, hx⟩ := List.mem_flatMap.1 hu
  exact encL_1 x u hx
theorem flatL_len (l : List Sale) : (l.flatMap encL).length = l.length * 5 := enc_len (enc := encL) (fun _ => rfl) l
theorem sizeL : (Tryd.prog.info? 68).map (·.size) = some 5 := by kernel_rfl
/-- How the call ends. -/
def InsP (l : List Sale) (x : Sale) (i base : Nat) (v : Value) (w : World) (e : Ending) (w' : World) : Prop :=
  (∃ v', e = .returned v' ∧ Own encL 68 5 w' base v' (l.take i ++ x :: l.drop i)) ∧ w.grownBy w' v.ownBlock

set_option maxHeartbeats 1000000 in
theorem ins_end (l : List Sale) (x : Sale) (vb : Nat) (v : Value) (base : Nat) (w : World) (hl : l.length ≤ 1000) (ho : Own encL 68 5 w base v l) (hb : base ≤ w.heap.size)
    (hx : Blk w vb 68 #[.int .i64 x.number, .int .i64 x.seller, .int .i64 x.buyer, .int .i64 x.bales, .int .i64 x.price]) :
    Calls Tryd.prog 119 #[v, .int .i64 (l.length : Int), .slice (some ⟨vb, 0, none⟩) 1 1] w (InsP l x l.length base v w) := by
  have HO := Lib.hid ho
  have HX := Lib.hid hx
  have HL := Lib.hid hl
  have HF := Lib.hid (show l.take l.length ++ x :: l.drop l.length = l ++ [x] by simp)
  obtain ⟨A, n, c, rfl, hn, hlc, hcm⟩ := (show SlL w v l from Own.sl (enc := encL) (fun _ => rfl) ho).form
  have hnl := hn.out
  have HC := Lib.hid (show ∀ j u, (encL x)[j]? = some u → w.cell? ⟨vb, j, none⟩ = some u by
    intro j u hu
    have := hx.cell j
    rw [this]
    simpa using hu)
  rw [← hnl]
  have HNN := Lib.hid hnl
  clear ho hx hl hnl
  by_cases hcn : c = n
  all_goals
    try subst hcn
    go_enter Tryd.func119, Tryd.ntmps119
    go_wp2_with (at_builtin; refine wpList_app encL 23 68 5 _ 40 Tryd.underlying23 info68x rfl (by decide) (by decide) (fun _ => rfl) encL_1 rfl (.tmp 23) (.tmp 24) rfl base _ l rfl HO.out vb 1 x rfl HC.out (by have := HL.out; omega) hb ?_)
    intro g cap w1 hown hg1 hbel hgr
    have HW := Lib.hid hown
    have HG := Lib.hid hgr
    clear hown hgr hbel
    go_wp2
    go_ret
    exact ⟨⟨_, rfl, by show Own _ _ _ _ _ (.slice (some ⟨g, 0, none⟩) (l.length + 1) cap) _; rw [HNN.out, HF.out]; exact HW.out⟩, HG.out⟩

/-- The row behind it, in any case. -/
theorem ins_row {l : List Sale} {x : Sale} {i base g cap : Nat} {W : World} {cur rest : List Value} (hi : i ≤ l.length) (hg : base ≤ g) (hh : W.heap[g]? = some (.cells cur.toArray 68 (0, 0))) (hc : l.length + 1 ≤ cap) (hm : cap ≤ maxLen) (hs : cur.length = cap * 5)
    (he : cur = (l.take i).flatMap encL ++ (encL x ++ ((l.drop i).flatMap encL ++ rest))) : Own encL 68 5 W base (.slice (some ⟨g, 0, none⟩) (l.length + 1) cap) (l.take i ++ x :: l.drop i) := by
  have hlen : (l.take i ++ x :: l.drop i).length = l.length + 1 := by simp; omega
  refine ⟨flatL_len _, .inr ⟨g, cap, cur.toArray, by rw [hlen], hg, hh, by rw [hlen]; exact hc, hm, by simpa using hs, ?_⟩⟩
  have hf : (l.take i ++ x :: l.drop i).flatMap encL = (l.take i).flatMap encL ++ (encL x ++ (l.drop i).flatMap encL) := by rw [List.flatMap_append, List.flatMap_cons]
  have hl2 : ((l.take i).flatMap encL ++ (encL x ++ (l.drop i).flatMap encL)).length = (l.take i ++ x :: l.drop i).length * 5 := by rw [← hf, flatL_len]
  rw [hf, ← hl2, he]
  show List.take _ ((l.take i).flatMap encL ++ (encL x ++ ((l.drop i).flatMap encL ++ rest))) = _
  rw [show (l.take i).flatMap encL ++ (encL x ++ ((l.drop i).flatMap encL ++ rest)) = ((l.take i).flatMap encL ++ (encL x ++ (l.drop i).flatMap encL)) ++ rest by simp only [List.append_assoc]]
  exact List.take_left

set_option maxHeartbeats 2000000 in
theorem ins_shift (l : List Sale) (x : Sale) (i vb g n c : Nat) (base : Nat) (w : World) (cur : Array Value) (hi : i < n) (hn : n = l.length) (hl : n ≤ 1000) (hroom : n + 1 ≤ c) (hcm : c ≤ maxLen) (hg : base ≤ g)
    (hh : w.heap[g]? = some (.cells cur 68 (0, 0))) (hs : cur.size = c * 5) (ht : cur.toList.take (n * 5) = l.flatMap encL) (hvb : g ≠ vb)
    (hx : Blk w vb 68 #[.int .i64 x.number, .int .i64 x.seller, .int .i64 x.buyer, .int .i64 x.bales, .int .i64 x.price]) :
    Calls Tryd.prog 119 #[.slice (some ⟨g, 0, none⟩) n c, .int .i64 (i : Int), .slice (some ⟨vb, 0, none⟩) 1 1] w (InsP l x i base (.slice (some ⟨g, 0, none⟩) n c) w) := by
  have hov : ∀ lb cb, (callFunc 125 #[.slice (some ⟨vb, 0, none⟩) 1 1, .slice (some ⟨g, (i + 1) * 5, none⟩) lb cb]).run Tryd.prog w = .ok (.value (.bool false)) w := fun lb cb => by
    rw [run_callFunc_extern Tryd.func125 (by kernel_rfl) (by kernel_rfl) (by kernel_rfl) (e := Extern.SlicesOverlaps.overlaps #[23, 23] #[4]) (by kernel_rfl),
      Lib.run_overlaps_apart w 23 4 68 Tryd.underlying23 5 Tryd.sizeOf68 ⟨vb, 0, none⟩ ⟨g, (i + 1) * 5, none⟩ 1 1 lb cb (fun e => hvb e.symm) 68 68 5 (c * 5) (by unfold World.shape?; unfold Blk at hx; rw [hx]; rfl) (by unfold World.shape?; rw [hh]; simp [hs]) (by omega) (hx.frozen 0) (hx.frozen 5)]
    rfl
  unfold maxLen at hcm
  have hz2 : ¬ ((i : Int) = (n : Int)) := by omega
  have hz3 : ¬ (c : Int) < (n : Int) + 1 := by omega
  have hiz : (i : Int) ≤ (n : Int) := by omega
  have hb2 : ¬ (c = i + 1) := by omega
  have hb4 : ¬ (c = i) := by omega
  have hb3 : (i : Int) + 1 ≤ (n : Int) + 1 := by omega
  have hb5 : (i : Int) ≤ (n : Int) + 1 := by omega
  have hb6 : (n : Int) + 1 ≤ (c : Int) := by omega
  have hb7 : ((i : Int) + 1).toNat = i + 1 := by omega
  have hb8 : ((n : Int) + 1).toNat = n + 1 := by omega
  have hb9 : IntKind.i64.wrap ((i : Int) + 1) = (i : Int) + 1 := by rw [IntKind.wrap_i64]; omega
  have hb10 : IntKind.i64.wrap ((n : Int) + 1) = (n : Int) + 1 := by rw [IntKind.wrap_i64]; omega
  have hb11 : (0 : Int) ≤ (i : Int) + 1 := by omega
  have hb12 : (0 : Int) ≤ (n : Int) + 1 := by omega
  have HN := Lib.hid hn; have HT := Lib.hid ht; have HS := Lib.hid hs; have HX := Lib.hid hx; have HH := Lib.hid hh
  clear hn ht hs hx hh
  go_enter Tryd.func119, Tryd.ntmps119
  go_wp2_with (simp only [hov])
  clear hov
  refine wp_region_tame_cut (fun W => Ext w W) (fun W W' => Ext W W') (by kernel_rfl) 95 rfl _ rfl (by decide +kernel) (by decide +kernel) (by decide +kernel) rfl (Ext.refl _).drew ?_
  simp only [List.dropLast]
  repeat (apply tame_q rfl; (intro ρ W hC hr hD; (obtain ⟨hrc, hrg, hrf, hrs⟩ := hr); (simp [go_sem] at hD); go_simp; first | exact ⟨⟨hC, Ext.refl _⟩, rfl⟩ | exact ⟨⟨hC, RS.refl _⟩, rfl⟩ | exact rfl); simp only [List.nil_append, List.cons_append])
  refine tame_end 95 rfl rfl (fun ρ W hC hr hF => ?_)
  obtain ⟨hrc, hrg, hrf, hrs⟩ := hr
  simp [go_sem] at hF
  apply frame_to
  · go_simp
    exact rfl
  clear hF hrs hrc hrg hrf
  have HCW := Lib.hid hC
  have hgl : g < w.heap.size := (Array.getElem?_eq_some_iff.1 HH.out).1
  have HW0 := Lib.hid (show W.heap[g]? = some (.cells cur 68 (0, 0)) from (hC.block g hgl).trans HH.out)
  have hlast : cur.toList.drop (i * 5) = (l.drop i).flatMap encL ++ cur.toList.drop (n * 5) := by
    have h1 : cur.toList = l.flatMap encL ++ cur.toList.drop (n * 5) := by rw [← HT.out, List.take_append_drop]
    have h2 : (l.flatMap encL).length = n * 5 := by rw [flatL_len, HN.out]
    conv => lhs; rw [h1]
    rw [List.drop_append_of_le_length (by rw [h2]; omega), flat_drop (enc := encL) (fun _ => rfl) l i (by have := HN.out; omega)]
  have HLA := Lib.hid hlast
  have HDL := Lib.hid (show ((l.drop i).flatMap encL).length = (n - i) * 5 by rw [flatL_len, List.length_drop, HN.out])
  have hcp := run_copy_rowN (P := Tryd.prog) W 23 23 3 68 5 g ((i + 1) * 5) (n - i) (c - (i + 1)) ⟨g, i * 5, none⟩ (n + 1 - i) (c - i) cur 68 ((l.drop i).flatMap encL) Tryd.underlying23 sizeL HW0.out
    (by rw [HDL.out]; congr 1; simp only [Nat.min_def]; split <;> omega) (fun j v hj => by
      rw [Addr.add_lit, cell_of_row W g _ cur 68 (0, 0) HW0.out]
      have h3 : (cur.toList.drop (i * 5))[j]? = some v := by rw [HLA.out, List.getElem?_append_left (List.getElem?_eq_some_iff.1 hj).1]; exact hj
      rw [List.getElem?_drop] at h3
      simpa using h3) (by rw [HDL.out]; have := HS.out; omega) (flatL_1 _)
  have hmin : Nat.min (n + 1 - i) (n - i) = n - i := by simp only [Nat.min_def]; split <;> omega
  rw [hmin] at hcp
  have hrl : (cur.toList.take ((i + 1) * 5) ++ (l.drop i).flatMap encL ++ cur.toList.drop ((i + 1) * 5 + ((l.drop i).flatMap encL).length)).length = c * 5 := by
    simp only [List.length_append, List.length_take, List.length_drop, HDL.out, Array.length_toList, HS.out]
    omega
  generalize hr1 : (cur.toList.take ((i + 1) * 5) ++ (l.drop i).flatMap encL ++ cur.toList.drop ((i + 1) * 5 + ((l.drop i).flatMap encL).length)) = row1 at hcp hrl
  have HR1 := Lib.hid hr1
  have HRL := Lib.hid hrl
  have HCP := Lib.hid hcp
  have hW1 := setRow_heap W g cur row1.toArray 68 (0, 0) HW0.out
  have hxl : vb < w.heap.size := HX.out.lt
  have hxv : ∀ j v, (encL x)[j]? = some v → (W.setRow g row1.toArray).cell? ((⟨vb, 0, none⟩ : Addr).add j) = some v := by
    intro j v hj
    rw [Addr.add_lit, Nat.zero_add]
    have h1 : Blk (W.setRow g row1.toArray) vb 68 #[.int .i64 x.number, .int .i64 x.seller, .int .i64 x.buyer, .int .i64 x.bales, .int .i64 x.price] := (setRow_other W g vb _ (fun e => hvb e.symm)).trans ((hC.block vb hxl).trans HX.out)
    rw [h1.cell]
    simpa using hj
  have hcp2 := run_copy_rowN (P := Tryd.prog) (W.setRow g row1.toArray) 23 23 3 68 5 g (i * 5) (n + 1 - i) (c - i) ⟨vb, 0, none⟩ 1 1 row1.toArray 68 (encL x) Tryd.underlying23 sizeL hW1
    (show (encL x).length = Nat.min 1 (n + 1 - i) * 5 by
        have : Nat.min 1 (n + 1 - i) = 1 := by simp only [Nat.min_def]; split <;> omega
        rw [this]; rfl) hxv (by simp [HRL.out]; omega) (encL_1 x)
  have hfin := setRow_heap (W.setRow g row1.toArray) g row1.toArray (row1.toArray.toList.take (i * 5) ++ encL x ++ row1.toArray.toList.drop (i * 5 + (encL x).length)).toArray 68 (0, 0) hW1
  have hgr := grown_tr (grown_tr (ext_row HCW.out (some g)) (grown_row (w := W) (g := g) row1.toArray)) (grown_row (w := W.setRow g row1.toArray) (g := g) (row1.toArray.toList.take (i * 5) ++ encL x ++ row1.toArray.toList.drop (i * 5 + (encL x).length)).toArray)
  have hrow : (row1.toArray.toList.take (i * 5) ++ encL x ++ row1.toArray.toList.drop (i * 5 + (encL x).length)) = (l.take i).flatMap encL ++ (encL x ++ ((l.drop i).flatMap encL ++ cur.toList.drop ((i + 1) * 5 + (n - i) * 5))) := by
    have h0 : (i + 1) * 5 = i * 5 + 5 := by omega
    have h4 : cur.toList.take (i * 5) = (l.take i).flatMap encL := by
      rw [← flat_take (enc := encL) (sz := 5) (fun _ => rfl) l i (by have := HN.out; omega), ← HT.out, List.take_take, Nat.min_eq_left (Nat.mul_le_mul_right _ (by omega))]
    have h5 : row1 = cur.toList.take (i * 5) ++ ((cur.toList.drop (i * 5)).take 5 ++ ((l.drop i).flatMap encL ++ cur.toList.drop ((i + 1) * 5 + (n - i) * 5))) := by
      rw [← HR1.out, HDL.out, h0, List.take_add]
      simp only [List.append_assoc]
    have h6 : (cur.toList.take (i * 5)).length = i * 5 := by rw [List.length_take, Array.length_toList, HS.out]; omega
    have h7 : ((cur.toList.drop (i * 5)).take 5).length = 5 := by rw [List.length_take, List.length_drop, Array.length_toList, HS.out]; omega
    show row1.take (i * 5) ++ encL x ++ row1.drop (i * 5 + 5) = _
    have h8 : row1.drop (i * 5 + 5) = (l.drop i).flatMap encL ++ cur.toList.drop ((i + 1) * 5 + (n - i) * 5) := by
      rw [h5, ← List.append_assoc]
      exact List.drop_left' (by rw [List.length_append, h6, h7])
    rw [h8, h5, List.take_append_of_le_length (by omega), List.take_of_length_le (by omega), h4, List.append_assoc]
  rw [hrow] at hcp2 hfin hgr
  have hlen2 : ((l.take i).flatMap encL ++ (encL x ++ ((l.drop i).flatMap encL ++ cur.toList.drop ((i + 1) * 5 + (n - i) * 5)))).length = c * 5 := by
    simp only [List.length_append, flatL_len, List.length_take, List.length_drop, Array.length_toList, HS.out]
    have := HN.out
    simp
    omega
  have HO := Lib.hid (ins_row (l := l) (x := x) (i := i) (base := base) (cap := c) (by have := HN.out; omega) hg hfin (by have := HN.out; omega) (by unfold maxLen; omega) hlen2 rfl)
  have HGR := Lib.hid hgr
  have HCP2 := Lib.hid hcp2
  clear hr1 hlast hC hrl hfin hgr hrow hlen2 hxv hW1 hmin hcp hcp2
  have k1 := HCP.out
  have k2 := HCP2.out
  go_wp2
  go_ret
  exact ⟨⟨_, rfl, by show Own _ _ _ _ _ (.slice (some ⟨g, 0, none⟩) (n + 1) c) _; rw [HN.out]; rw [HN.out] at HO; exact HO.out⟩, HGR.out⟩

/-- append of zeros onto the head of a row that has no room: a new row. -/
theorem wpList_zerosL {ops : Array Oper} {rest : List Oper} {o : Oper} {a : Act} {Q : Exit → Act → World → Prop} {w : World} (hgd : o.guard = none) (s x : Operand)
    (ho : o.op = .call { callee := .builtin .append, args := #[s, x], argTypes := #[23, 3] }) {g n c i : Nat} {l : List Sale} {cur : Array Value} (hn : n = l.length) (hl : n ≤ 1000) (hi : i < n) (hroom : c < n + 1) (hnc : n ≤ c)
    (hh : w.heap[g]? = some (.cells cur 68 (0, 0))) (ht : cur.toList.take (n * 5) = l.flatMap encL)
    (hs : a.eval s = .slice (some ⟨g, 0, none⟩) i c) (hx : a.eval x = .int .i64 ((n : Int) + 1 - (i : Int)))
    (h : ∀ G W' (row rest' : List Value), W'.heap[w.heap.size]? = some (.cells row.toArray 68 (0, 0)) → Ext w W' → row = (l.take i).flatMap encL ++ rest' → row.length = G * 5 → n + 1 ≤ G → G ≤ maxLen →
      wpList Tryd.prog ops Q rest (a.put o.dst (.slice (some ⟨w.heap.size, 0, none⟩) (n + 1) G)) W') :
    wpList Tryd.prog ops Q (o :: rest) a w := by
  obtain ⟨i0, hi0, hz0, hzs, hzb⟩ := info_parts info68x
  have hld : ((l.take i).flatMap encL).length = i * 5 := by rw [flatL_len, List.length_take, ← hn, Nat.min_eq_left (by omega)]
  have hold : (Builtin.firstCells i0.size i (.slice (some ⟨g, 0, none⟩) i c)).run Tryd.prog w.drew = .ok ((l.take i).flatMap encL).toArray w.drew := by
    rw [hzs]
    exact run_firstCells_some w.drew 5 i ⟨g, 0, none⟩ i c _ hld (fun j v hj => by
      rw [Addr.add_lit, Nat.zero_add]
      show w.cell? ⟨g, j, none⟩ = some v
      rw [cell_of_row w g j cur 68 (0, 0) hh]
      have hjl := (List.getElem?_eq_some_iff.1 hj).1
      rw [hld] at hjl
      have h1 : (cur.toList.take (n * 5))[j]? = some v := by
        rw [ht]
        have h2 := flat_take (enc := encL) (sz := 5) (fun _ => rfl) l i (by omega)
        rw [← h2, List.getElem?_take_of_lt (by omega)] at hj
        exact hj
      rw [List.getElem?_take_of_lt (by omega)] at h1
      simpa using h1)
  have hkk : (n : Int) + 1 - (i : Int) = ((n + 1 - i : Nat) : Int) := by omega
  have hik : i + (n + 1 - i) = n + 1 := by omega
  have hr := Lib.run_append_grow_zeros w 23 3 o.type 68 i0 _ .i64 .i64 Tryd.underlying23 Tryd.underlying3 hi0 hz0 (some ⟨g, 0, none⟩) i c ((l.take i).flatMap encL) hold (n + 1 - i) (by omega) (by omega) (by omega) (by omega) (by rw [hzb]; omega) (by rw [hzb, hik]; exact growslice_fits (by omega) (by omega))
  rw [hik] at hr
  have hG := grownCap_ge w (n + 1) c 68
  have hGm := grownCap_le_maxLen w (n + 1) c 68 (by unfold maxLen; omega)
  generalize hGe : grownCap w (n + 1) c 68 = G at *
  generalize hR : (((l.take i).flatMap encL).toArray ++ Builtin.zeroCells (Value.agg #[.int .i64 0, .int .i64 0, .int .i64 0, .int .i64 0, .int .i64 0]).cells (n + 1 - i) ++ Builtin.zeroCells (Value.agg #[.int .i64 0, .int .i64 0, .int .i64 0, .int .i64 0, .int .i64 0]).cells (G - (n + 1))) = R at hr
  refine Lib.wpList_append_run w hgd s x 23 3 ho _ _ hs hx _ _ (by rw [hkk]; exact hr) ?_
  refine h G _ R.toList _ (by rw [Array.toArray_toList]; exact heap_alloc_new w.drew _) ((Ext.refl w).drew.alloc _) (by rw [← hR, Array.toList_append, Array.toList_append, List.append_assoc]) ?_ hG hGm
  rw [← hR]
  simp only [Array.toList_append, List.length_append, hld, Array.length_toList, size_zeroCells]
  have e5 : (Value.agg #[.int .i64 0, .int .i64 0, .int .i64 0, .int .i64 0, .int .i64 0] : Value).cells.size = 5 := rfl
  rw [e5]
  omega

set_option maxHeartbeats 2000000 in
theorem ins_grow (l : List Sale) (x : Sale) (i vb g n c : Nat) (base : Nat) (w : World) (cur : Array Value) (hi : i < n) (hn : n = l.length) (hl : n ≤ 1000) (hnc : n ≤ c) (hroom : c < n + 1) (hb : base ≤ w.heap.size)
    (hh : w.heap[g]? = some (.cells cur 68 (0, 0))) (ht : cur.toList.take (n * 5) = l.flatMap encL)
    (hx : Blk w vb 68 #[.int .i64 x.number, .int .i64 x.seller, .int .i64 x.buyer, .int .i64 x.bales, .int .i64 x.price]) :
    Calls Tryd.prog 119 #[.slice (some ⟨g, 0, none⟩) n c, .int .i64 (i : Int), .slice (some ⟨vb, 0, none⟩) 1 1] w (InsP l x i base (.slice (some ⟨g, 0, none⟩) n c) w) := by
  have hz2 : ¬ ((i : Int) = (n : Int)) := by omega
  have hz3 : (c : Int) < (n : Int) + 1 := by omega
  have hiz : (i : Int) ≤ (n : Int) := by omega
  have hic : (i : Int) ≤ (c : Int) := by omega
  have hb4 : ¬ (c = i) := by omega
  have hb7 : ((i : Int) + 1).toNat = i + 1 := by omega
  have hb9 : IntKind.i64.wrap ((i : Int) + 1) = (i : Int) + 1 := by rw [IntKind.wrap_i64]; omega
  have hb10 : IntKind.i64.wrap ((n : Int) + 1) = (n : Int) + 1 := by rw [IntKind.wrap_i64]; omega
  have hb11 : (0 : Int) ≤ (i : Int) + 1 := by omega
  have hb13 : IntKind.i64.wrap ((n : Int) + 1 - (i : Int)) = (n : Int) + 1 - (i : Int) := by rw [IntKind.wrap_i64]; omega
  have hb14 : (i : Int) + 1 ≤ (n : Int) + 1 := by omega
  have HN := Lib.hid hn; have HT := Lib.hid ht; have HX := Lib.hid hx; have HH := Lib.hid hh
  clear hn ht hx hh
  go_enter Tryd.func119, Tryd.ntmps119
  go_wp2_with (at_builtin; refine wpList_zerosL rfl (.tmp 34) (.tmp 39) rfl HN.out hl hi hroom hnc HH.out HT.out rfl rfl ?_)
  intro G W1 row rest' hrow1 hext hrow hrlen hG1 hG2
  unfold maxLen at hG2
  have hc1 : ¬ (G = i) := by omega
  have hc2 : ¬ (G = i + 1) := by omega
  have hc3 : (i : Int) ≤ (G : Int) := by omega
  have hld : ((l.take i).flatMap encL).length = i * 5 := by rw [flatL_len, List.length_take, ← HN.out, Nat.min_eq_left (by omega)]
  have hxl : vb < w.heap.size := HX.out.lt
  have hgl : g < w.heap.size := (Array.getElem?_eq_some_iff.1 HH.out).1
  have hxv : ∀ j v, (encL x)[j]? = some v → W1.cell? ((⟨vb, 0, none⟩ : Addr).add j) = some v := by
    intro j v hj
    rw [Addr.add_lit, Nat.zero_add, (HX.out.ext hext).cell]
    simpa using hj
  have k1 := run_copy_rowN (P := Tryd.prog) W1 23 23 3 68 5 w.heap.size (i * 5) (n + 1 - i) (G - i) ⟨vb, 0, none⟩ 1 1 row.toArray 68 (encL x) Tryd.underlying23 sizeL hrow1
    (show (encL x).length = Nat.min 1 (n + 1 - i) * 5 by
        have : Nat.min 1 (n + 1 - i) = 1 := by simp only [Nat.min_def]; split <;> omega
        rw [this]; rfl) hxv (by simp [hrlen]; omega) (encL_1 x)
  have hr1 : row.toArray.toList.take (i * 5) ++ encL x ++ row.toArray.toList.drop (i * 5 + (encL x).length) = (l.take i).flatMap encL ++ (encL x ++ row.drop (i * 5 + 5)) := by
    show row.take (i * 5) ++ encL x ++ row.drop (i * 5 + 5) = _
    have h1 : row.take (i * 5) = (l.take i).flatMap encL := by rw [hrow, ← hld]; exact List.take_left
    rw [h1, List.append_assoc]
  rw [hr1] at k1
  have hlen1 : ((l.take i).flatMap encL ++ (encL x ++ row.drop (i * 5 + 5))).length = G * 5 := by
    simp only [List.length_append, hld, List.length_drop, hrlen]
    simp
    omega
  have hW2h := setRow_heap W1 w.heap.size row.toArray ((l.take i).flatMap encL ++ (encL x ++ row.drop (i * 5 + 5))).toArray 68 (0, 0) hrow1
  have hE2 : Ext w (W1.setRow w.heap.size ((l.take i).flatMap encL ++ (encL x ++ row.drop (i * 5 + 5))).toArray) := ext_grown hext (grown_row _) (Nat.le_refl _)
  generalize hW2 : W1.setRow w.heap.size ((l.take i).flatMap encL ++ (encL x ++ row.drop (i * 5 + 5))).toArray = W2 at k1 hW2h hE2
  have HW2 := Lib.hid hW2h
  have HE2 := Lib.hid hE2
  have HL1 := Lib.hid hlen1
  have HG := Lib.hid (show n + 1 ≤ G ∧ G ≤ 9223372036854775807 by omega)
  clear hW2 hW2h hE2 hlen1 hr1 hxv hrow1 hext hrow hrlen hld
  go_wp2
  refine wp_region_tame_cut (fun W => Ext W2 W) (fun W W' => Ext W W') (by kernel_rfl) 95 rfl _ rfl (by decide +kernel) (by decide +kernel) (by decide +kernel) rfl (Ext.refl _).drew ?_
  simp only [List.dropLast]
  clear k1
  repeat (apply tame_q rfl; (intro ρ W hC hr hD; (obtain ⟨hrc, hrg, hrf, hrs⟩ := hr); (simp [go_sem] at hD); go_simp; first | exact ⟨⟨hC, Ext.refl _⟩, rfl⟩ | exact ⟨⟨hC, RS.refl _⟩, rfl⟩ | exact rfl); simp only [List.nil_append, List.cons_append])
  refine tame_end 95 rfl rfl (fun ρ W hC hr hF => ?_)
  obtain ⟨hrc, hrg, hrf, hrs⟩ := hr
  simp [go_sem] at hF
  apply frame_to
  · go_simp
    exact rfl
  clear hF hrs hrc hrg hrf
  have HCW := Lib.hid hC
  have hrl : w.heap.size < W2.heap.size := (Array.getElem?_eq_some_iff.1 HW2.out).1
  have HW3 := Lib.hid ((hC.block _ hrl).trans HW2.out)
  have HDL := Lib.hid (show ((l.drop i).flatMap encL).length = (n - i) * 5 by rw [flatL_len, List.length_drop, HN.out])
  have hlast : cur.toList.drop (i * 5) = (l.drop i).flatMap encL ++ cur.toList.drop (n * 5) := by
    have h1 : cur.toList = l.flatMap encL ++ cur.toList.drop (n * 5) := by rw [← HT.out, List.take_append_drop]
    have h2 : (l.flatMap encL).length = n * 5 := by rw [flatL_len, HN.out]
    conv => lhs; rw [h1]
    rw [List.drop_append_of_le_length (by rw [h2]; omega), flat_drop (enc := encL) (fun _ => rfl) l i (by have := HN.out; omega)]
  have HW4 := Lib.hid (show W.heap[g]? = some (.cells cur 68 (0, 0)) from ((HE2.out.trans hC).block g hgl).trans HH.out)
  have k2 := run_copy_rowN (P := Tryd.prog) W 23 23 3 68 5 w.heap.size ((i + 1) * 5) (n - i) (G - (i + 1)) ⟨g, i * 5, none⟩ (n - i) (c - i) _ 68 ((l.drop i).flatMap encL) Tryd.underlying23 sizeL HW3.out
    (by rw [HDL.out]; congr 1; simp only [Nat.min_def]; split <;> omega) (fun j v hj => by
      rw [Addr.add_lit, cell_of_row W g _ cur 68 (0, 0) HW4.out]
      have h3 : (cur.toList.drop (i * 5))[j]? = some v := by rw [hlast, List.getElem?_append_left (List.getElem?_eq_some_iff.1 hj).1]; exact hj
      rw [List.getElem?_drop] at h3
      simpa using h3) (by rw [HDL.out]; have := HL1.out; have := HG.out; simp only [List.size_toArray]; omega) (flatL_1 _)
  have hmin : Nat.min (n - i) (n - i) = n - i := by simp only [Nat.min_def]; split <;> omega
  rw [hmin] at k2
  have hr2 : (((l.take i).flatMap encL ++ (encL x ++ row.drop (i * 5 + 5))).toArray.toList.take ((i + 1) * 5) ++ (l.drop i).flatMap encL ++ ((l.take i).flatMap encL ++ (encL x ++ row.drop (i * 5 + 5))).toArray.toList.drop ((i + 1) * 5 + ((l.drop i).flatMap encL).length)) =
      (l.take i).flatMap encL ++ (encL x ++ ((l.drop i).flatMap encL ++ ((l.take i).flatMap encL ++ (encL x ++ row.drop (i * 5 + 5))).drop ((i + 1) * 5 + ((l.drop i).flatMap encL).length))) := by
    show ((l.take i).flatMap encL ++ (encL x ++ row.drop (i * 5 + 5))).take ((i + 1) * 5) ++ (l.drop i).flatMap encL ++ _ = _
    have h1 : ((l.take i).flatMap encL ++ (encL x ++ row.drop (i * 5 + 5))).take ((i + 1) * 5) = (l.take i).flatMap encL ++ encL x := by
      rw [← List.append_assoc]
      refine List.take_left' ?_
      rw [List.length_append, flatL_len, List.length_take, ← HN.out, Nat.min_eq_left (by omega)]
      simp
      omega
    rw [h1]
    simp only [List.append_assoc]
  rw [hr2] at k2
  have hfin := setRow_heap W w.heap.size _ ((l.take i).flatMap encL ++ (encL x ++ ((l.drop i).flatMap encL ++ ((l.take i).flatMap encL ++ (encL x ++ row.drop (i * 5 + 5))).drop ((i + 1) * 5 + ((l.drop i).flatMap encL).length)))).toArray 68 (0, 0) HW3.out
  have hlen2 : ((l.take i).flatMap encL ++ (encL x ++ ((l.drop i).flatMap encL ++ ((l.take i).flatMap encL ++ (encL x ++ row.drop (i * 5 + 5))).drop ((i + 1) * 5 + ((l.drop i).flatMap encL).length)))).length = G * 5 := by
    have h1 : ((l.take i).flatMap encL).length = i * 5 := by rw [flatL_len, List.length_take, ← HN.out, Nat.min_eq_left (by omega)]
    have h2 : (encL x).length = 5 := rfl
    have h3 := HL1.out
    have := HG.out
    rw [List.length_append, List.length_append, List.length_append, List.length_drop, h3, HDL.out, h1, h2]
    omega
  generalize hfr : ((l.take i).flatMap encL ++ (encL x ++ ((l.drop i).flatMap encL ++ ((l.take i).flatMap encL ++ (encL x ++ row.drop (i * 5 + 5))).drop ((i + 1) * 5 + ((l.drop i).flatMap encL).length)))) = fr at k2 hfin hlen2
  have HO := Lib.hid (ins_row (l := l) (x := x) (i := i) (base := base) (g := w.heap.size) (cap := G) (by have := HN.out; omega) hb hfin (by have := HN.out; have := HG.out; omega) (by have := HG.out; unfold maxLen; omega) hlen2 hfr.symm)
  have HEX := Lib.hid (ext_grown (HE2.out.trans hC) (grown_row (w := W) (g := w.heap.size) fr.toArray) (Nat.le_refl _))
  clear hr2 hfin hlen2 hmin hlast hC hrl hfr
  go_wp2
  go_ret
  exact ⟨⟨_, rfl, by show Own _ _ _ _ _ (.slice (some ⟨w.heap.size, 0, none⟩) (n + 1) G) _; rw [HN.out]; exact HO.out⟩, ext_row HEX.out _⟩
/-- **slices.Insert of one sale.** -/
theorem insert_any (l : List Sale) (x : Sale) (i vb : Nat) (v : Value) (base : Nat) (w : World) (hi : i ≤ l.length) (hl : l.length ≤ 1000) (ho : Own encL 68 5 w base v l) (hb : base ≤ w.heap.size)
    (hx : Blk w vb 68 #[.int .i64 x.number, .int .i64 x.seller, .int .i64 x.buyer, .int .i64 x.bales, .int .i64 x.price]) :
    Calls Tryd.prog 119 #[v, .int .i64 (i : Int), .slice (some ⟨vb, 0, none⟩) 1 1] w (InsP l x i base v w) := by
  by_cases he : i = l.length
  · subst he
    exact ins_end l x vb v base w hl ho hb hx
  · rcases own_form ho with ⟨rfl, rfl⟩ | ⟨g, cap, cur, rfl, hg, hh, hlc, hcm, hs, ht⟩
    · simp at hi; simp at he; omega
    · by_cases hroom : l.length + 1 ≤ cap
      · exact ins_shift l x i vb g l.length cap base w cur (by omega) rfl hl hroom hcm hg hh hs ht (by
          rintro rfl
          unfold Blk at hx
          rw [hh] at hx
          injection hx with hx
          injection hx with hx _ _
          rw [hx] at hs
          simp at hs
          omega) hx
      · exact ins_grow l x i vb g l.length cap base w cur (by omega) rfl hl hlc (by omega) hb hh ht hx
end Go.Proofs.YtafdbgielmlihaaDoor
