/- The walks of slices.IndexFunc and slices.ContainsFunc at draws, weighings and spans, of core.draws and core.weighs. -/
import Derived.Test.YtcoiahjehlplfaaDoorCoreM
namespace Go.Proofs.YtcoiahjehlplfaaDoor
open Go.RowKit Go.Shelf


set_option maxHeartbeats 400000 in
theorem f133_any (g : FuncId) (cap : Array Value) (eg : ∀ args w, (callFunc g args).run Tryd.prog w = .ok (.enter g args) w) (p : Draw → Bool) (l : List Draw) (v : Value) (w : World) (hs : SlD w v l) (hp : Pred valD g cap p l w) :
    Calls Tryd.prog 133 #[v, .func (.func g) #[] cap] w fun e w' => e = .returned (.int .i64 (idxF p l)) ∧ Ext w w' := by
  obtain ⟨A, n, c, rfl, hn, hlc, hcm⟩ := hs.form
  have HP := Lib.hid hp; clear hp
  go_enter Tryd.func133, Tryd.ntmps133
  go_wp2
  go_loopg [5, 8] n (fun gg _ s8 wr => ∃ kk : Nat, kk ≤ n ∧ n - kk ≤ gg ∧ s8 = .int .i64 kk ∧ Aside (Ext w wr) ∧ Aside (∀ j y, j < kk → l[j]? = some y → p y = false))
  case atStart => exact ⟨0, Nat.zero_le _, by omega, rfl, Ext.refl w, fun j y hj => absurd hj (Nat.not_lt_zero _)⟩
  case round =>
    obtain ⟨kk, hkk, hg, rfl, BW, FA⟩ := hrel
    by_cases hlt : kk < n
    · have hltz : (kk : Int) < (n : Int) := by omega
      obtain ⟨b, off, x, rfl, hx, hb, hcell⟩ := hs.at_ hlt
      obtain ⟨c0, c1, c2, c3⟩ := SlD.cells hcell BW.out
      have hcall := HP.out wr x (List.mem_of_getElem? hx) BW.out
      have HX := Lib.hid hx; clear hx hcell hs
      cases hq : p x with
      | true =>
        rw [hq] at hcall
        have HC := Lib.hid hcall; clear hcall
        have HQ := Lib.hid hq; clear hq
        go_wp2_with (go_at_fn g; refine HC.out.mono ?_; rintro e w' ⟨rfl, hb'⟩)
        go_ret
        exact ⟨by rw [idxF_some p l kk x HX.out HQ.out FA.out]; rfl, BW.out.trans hb'⟩
      | false =>
        rw [hq] at hcall
        have HC := Lib.hid hcall; clear hcall
        have HQ := Lib.hid hq; clear hq
        go_wp2_with (go_at_fn g; refine HC.out.mono ?_; rintro e w' ⟨rfl, hb'⟩)
        go_roundg (n - (kk + 1))
        case measure => omega
        case rel => exact ⟨kk + 1, by omega, by omega, rfl, BW.out.trans hb', fun j y hj hy => by
          rcases Nat.lt_succ_iff_lt_or_eq.1 hj with h | rfl
          · exact FA.out j y h hy
          · rw [HX.out] at hy; cases hy; exact HQ.out⟩
    · have HE := Lib.hid (show kk = n by omega); clear hs
      go_wp2
      go_ret
      exact ⟨by rw [idxF_none p l (fun x hx => by obtain ⟨j, hj⟩ := List.getElem?_of_mem hx; exact FA.out j x (by have := (List.getElem?_eq_some_iff.1 hj).1; have := HE.out; have := hn.out; omega) hj)]; rfl, BW.out⟩

theorem f164_any (g : FuncId) (cap : Array Value) (eg : ∀ args w, (callFunc g args).run Tryd.prog w = .ok (.enter g args) w) (p : Draw → Bool) (l : List Draw) (v : Value) (w : World) (hs : SlD w v l) (hp : Pred valD g cap p l w) :
    Calls Tryd.prog 164 #[v, .func (.func g) #[] cap] w fun e w' => e = .returned (.bool (l.any p)) ∧ Ext w w' := by
  have HP := Lib.hid hp; clear hp
  have HS := Lib.hid hs; clear hs
  go_enter Tryd.func164, Tryd.ntmps164
  go_wp2_with (go_at_call 133; refine (f133_any g cap eg p l v _ HS.out HP.out).mono ?_; rintro e w' ⟨rfl, hb'⟩)
  go_ret
  exact ⟨ret_bool (idxF_any p l), hb'⟩

set_option maxHeartbeats 400000 in
theorem f105_any (g : FuncId) (cap : Array Value) (eg : ∀ args w, (callFunc g args).run Tryd.prog w = .ok (.enter g args) w) (p : Weigh → Bool) (l : List Weigh) (v : Value) (w : World) (hs : SlW w v l) (hp : Pred valW g cap p l w) :
    Calls Tryd.prog 105 #[v, .func (.func g) #[] cap] w fun e w' => e = .returned (.int .i64 (idxF p l)) ∧ Ext w w' := by
  obtain ⟨A, n, c, rfl, hn, hlc, hcm⟩ := hs.form
  have HP := Lib.hid hp; clear hp
  go_enter Tryd.func105, Tryd.ntmps105
  go_wp2
  go_loopg [5, 8] n (fun gg _ s8 wr => ∃ kk : Nat, kk ≤ n ∧ n - kk ≤ gg ∧ s8 = .int .i64 kk ∧ Aside (Ext w wr) ∧ Aside (∀ j y, j < kk → l[j]? = some y → p y = false))
  case atStart => exact ⟨0, Nat.zero_le _, by omega, rfl, Ext.refl w, fun j y hj => absurd hj (Nat.not_lt_zero _)⟩
  case round =>
    obtain ⟨kk, hkk, hg, rfl, BW, FA⟩ := hrel
    by_cases hlt : kk < n
    · have hltz : (kk : Int) < (n : Int) := by omega
      obtain ⟨b, off, x, rfl, hx, hb, hcell⟩ := hs.at_ hlt
      obtain ⟨c0, c1, c2, c3⟩ := SlW.cells hcell BW.out
      have hcall := HP.out wr x (List.mem_of_getElem? hx) BW.out
      have HX := Lib.hid hx; clear hx hcell hs
      cases hq : p x with
      | true =>
        rw [hq] at hcall
        have HC := Lib.hid hcall; clear hcall
        have HQ := Lib.hid hq; clear hq
        go_wp2_with (go_at_fn g; refine HC.out.mono ?_; rintro e w' ⟨rfl, hb'⟩)
        go_ret
        exact ⟨by rw [idxF_some p l kk x HX.out HQ.out FA.out]; rfl, BW.out.trans hb'⟩
      | false =>
        rw [hq] at hcall
        have HC := Lib.hid hcall; clear hcall
        have HQ := Lib.hid hq; clear hq
        go_wp2_with (go_at_fn g; refine HC.out.mono ?_; rintro e w' ⟨rfl, hb'⟩)
        go_roundg (n - (kk + 1))
        case measure => omega
        case rel => exact ⟨kk + 1, by omega, by omega, rfl, BW.out.trans hb', fun j y hj hy => by
          rcases Nat.lt_succ_iff_lt_or_eq.1 hj with h | rfl
          · exact FA.out j y h hy
          · rw [HX.out] at hy; cases hy; exact HQ.out⟩
    · have HE := Lib.hid (show kk = n by omega); clear hs
      go_wp2
      go_ret
      exact ⟨by rw [idxF_none p l (fun x hx => by obtain ⟨j, hj⟩ := List.getElem?_of_mem hx; exact FA.out j x (by have := (List.getElem?_eq_some_iff.1 hj).1; have := HE.out; have := hn.out; omega) hj)]; rfl, BW.out⟩

theorem f68_any (g : FuncId) (cap : Array Value) (eg : ∀ args w, (callFunc g args).run Tryd.prog w = .ok (.enter g args) w) (p : Weigh → Bool) (l : List Weigh) (v : Value) (w : World) (hs : SlW w v l) (hp : Pred valW g cap p l w) :
    Calls Tryd.prog 68 #[v, .func (.func g) #[] cap] w fun e w' => e = .returned (.bool (l.any p)) ∧ Ext w w' := by
  have HP := Lib.hid hp; clear hp
  have HS := Lib.hid hs; clear hs
  go_enter Tryd.func68, Tryd.ntmps68
  go_wp2_with (go_at_call 105; refine (f105_any g cap eg p l v _ HS.out HP.out).mono ?_; rintro e w' ⟨rfl, hb'⟩)
  go_ret
  exact ⟨ret_bool (idxF_any p l), hb'⟩

set_option maxHeartbeats 400000 in
theorem f134_any (g : FuncId) (cap : Array Value) (eg : ∀ args w, (callFunc g args).run Tryd.prog w = .ok (.enter g args) w) (p : Span → Bool) (l : List Span) (v : Value) (w : World) (hs : SlS w v l) (hp : Pred valS g cap p l w) :
    Calls Tryd.prog 134 #[v, .func (.func g) #[] cap] w fun e w' => e = .returned (.int .i64 (idxF p l)) ∧ Ext w w' := by
  obtain ⟨A, n, c, rfl, hn, hlc, hcm⟩ := hs.form
  have HP := Lib.hid hp; clear hp
  go_enter Tryd.func134, Tryd.ntmps134
  go_wp2
  go_loopg [5, 8] n (fun gg _ s8 wr => ∃ kk : Nat, kk ≤ n ∧ n - kk ≤ gg ∧ s8 = .int .i64 kk ∧ Aside (Ext w wr) ∧ Aside (∀ j y, j < kk → l[j]? = some y → p y = false))
  case atStart => exact ⟨0, Nat.zero_le _, by omega, rfl, Ext.refl w, fun j y hj => absurd hj (Nat.not_lt_zero _)⟩
  case round =>
    obtain ⟨kk, hkk, hg, rfl, BW, FA⟩ := hrel
    by_cases hlt : kk < n
    · have hltz : (kk : Int) < (n : Int) := by omega
      obtain ⟨b, off, x, rfl, hx, hb, hcell⟩ := hs.at_ hlt
      obtain ⟨c0, c1⟩ := SlS.cells hcell BW.out
      have hcall := HP.out wr x (List.mem_of_getElem? hx) BW.out
      have HX := Lib.hid hx; clear hx hcell hs
      cases hq : p x with
      | true =>
        rw [hq] at hcall
        have HC := Lib.hid hcall; clear hcall
        have HQ := Lib.hid hq; clear hq
        go_wp2_with (go_at_fn g; refine HC.out.mono ?_; rintro e w' ⟨rfl, hb'⟩)
        go_ret
        exact ⟨by rw [idxF_some p l kk x HX.out HQ.out FA.out]; rfl, BW.out.trans hb'⟩
      | false =>
        rw [hq] at hcall
        have HC := Lib.hid hcall; clear hcall
        have HQ := Lib.hid hq; clear hq
        go_wp2_with (go_at_fn g; refine HC.out.mono ?_; rintro e w' ⟨rfl, hb'⟩)
        go_roundg (n - (kk + 1))
        case measure => omega
        case rel => exact ⟨kk + 1, by omega, by omega, rfl, BW.out.trans hb', fun j y hj hy => by
          rcases Nat.lt_succ_iff_lt_or_eq.1 hj with h | rfl
          · exact FA.out j y h hy
          · rw [HX.out] at hy; cases hy; exact HQ.out⟩
    · have HE := Lib.hid (show kk = n by omega); clear hs
      go_wp2
      go_ret
      exact ⟨by rw [idxF_none p l (fun x hx => by obtain ⟨j, hj⟩ := List.getElem?_of_mem hx; exact FA.out j x (by have := (List.getElem?_eq_some_iff.1 hj).1; have := HE.out; have := hn.out; omega) hj)]; rfl, BW.out⟩

theorem f121_any (g : FuncId) (cap : Array Value) (eg : ∀ args w, (callFunc g args).run Tryd.prog w = .ok (.enter g args) w) (p : Span → Bool) (l : List Span) (v : Value) (w : World) (hs : SlS w v l) (hp : Pred valS g cap p l w) :
    Calls Tryd.prog 121 #[v, .func (.func g) #[] cap] w fun e w' => e = .returned (.bool (l.any p)) ∧ Ext w w' := by
  have HP := Lib.hid hp; clear hp
  have HS := Lib.hid hs; clear hs
  go_enter Tryd.func121, Tryd.ntmps121
  go_wp2_with (go_at_call 134; refine (f134_any g cap eg p l v _ HS.out HP.out).mono ?_; rintro e w' ⟨rfl, hb'⟩)
  go_ret
  exact ⟨ret_bool (idxF_any p l), hb'⟩

/-! Numbers that are collected: 'out = append(out, n)'. -/
theorem Tryd_info3 : (Tryd.prog.info? 3).map (fun i => (i.zero, i.size, i.bytes)) = some (some (.int .i64 0), 1, 8) := by kernel_rfl
abbrev OwnI (w : World) (base : Nat) (v : Value) (l : List Int) : Prop := w.ownsRow base 3 1 v l.length (l.map (.int .i64))
theorem flatMap_encI : ∀ l : List Int, l.flatMap encI = l.map (.int .i64)
  | [] => rfl
  | x :: l => by rw [List.flatMap_cons, flatMap_encI l]; rfl
theorem OwnI.sl {w : World} {base : Nat} {v : Value} {l : List Int} (h : OwnI w base v l) : SlI w v l :=
  Sl.of_own (fun _ => rfl) (by rw [flatMap_encI]; exact h)

theorem wpList_app_i {ops : Array Oper} {rest : List Oper} {o : Oper} {a : Act} {Q : Exit → Act → World → Prop} {w : World} (hgd : o.guard = none) (s x : Operand)
    (ho : o.op = .call { callee := .builtin .append, args := #[s, x], argTypes := #[56, 56] }) (base : Nat) (v : Value) (l : List Int) (hs : a.eval s = v) (hown : OwnI w base v l)
    (b : Nat) (y : Int) (hx : a.eval x = .slice (some ⟨b, 0, none⟩) 1 1) (hc : w.cell? ⟨b, 0, none⟩ = some (.int .i64 y)) (hlen : l.length < 1099511627776) (hbase : base ≤ w.heap.size)
    (h : ∀ g cap w', OwnI w' base (.slice (some ⟨g, 0, none⟩) (l ++ [y]).length cap) (l ++ [y]) → base ≤ g → Below base w w' → w.grownBy w' v.ownBlock → wpList Tryd.prog ops Q rest (a.put o.dst (.slice (some ⟨g, 0, none⟩) (l.length + 1) cap)) w') :
    wpList Tryd.prog ops Q (o :: rest) a w := by
  obtain ⟨i0, hi, hz0, hz1, hz2⟩ := info_parts Tryd_info3
  refine wpList_append_own w hgd s x 56 ho base 3 i0 (.int .i64 0) 1 8 Tryd.underlying56 hi hz0 hz1 hz2 rfl (by decide) v l.length (l.map (.int .i64)) hs hown ⟨b, 0, none⟩ 1 1 [.int .i64 y] hx rfl ?_ ?_ ?_ ?_ hbase ?_
  · intro j u hj
    match j, hj with
    | 0, hj => simp at hj; subst hj; simpa [Addr.add] using hc
  · intro u hu; simp at hu; subst hu; rfl
  · unfold maxLen; omega
  · omega
  · intro v' w' hown' hgrow _
    obtain ⟨g, cap, hv, hg⟩ := own_succ hown'
    subst hv
    refine h g cap w' (by simpa [OwnI] using hown') hg ?_ hgrow
    exact (Below.refl base w).grown hgrow hbase (fun k hk => (hown.lt k hk).1)

set_option maxHeartbeats 400000 in
theorem f84_any (b : Bale) (dv wv : Value) (w : World) (hd : SlD w dv b.draws) (hw : SlW w wv b.weighs) (hlen : b.draws.length < 1000000) :
    Calls Tryd.prog 84 #[valB b dv wv] w fun e w' => ∃ v, e = .returned v ∧ SlI w' v (b.draws.map (·.number)) ∧ Ext w w' := by
  obtain ⟨A, n, cp, rfl, hn, hlc, hcm⟩ := hd.form
  obtain ⟨A2, n2, cp2, rfl, hn2, hlc2, hcm2⟩ := hw.form
  go_enter Tryd.func84, Tryd.ntmps84
  go_wp2
  go_loopg [3, 9] n (fun gg v s wr => ∃ kk : Nat, kk ≤ n ∧ n - kk ≤ gg ∧ s = .int .i64 kk ∧ Aside (OwnI wr (w.heap.size + 1) v ((b.draws.take kk).map (·.number))) ∧ Aside (Below (w.heap.size + 1) (w.alloc (.cells #[.int .i64 b.id, .int .i64 b.layers, .int .i64 b.dry.lo, .int .i64 b.dry.hi, .slice A n cp, .slice A2 n2 cp2] 27)) wr))
  case atStart => exact ⟨0, Nat.zero_le _, by omega, rfl, World.ownsRow_nil _ _ _ _, Below.refl _ _⟩
  case round =>
    obtain ⟨kk, hkk, hg, rfl, OW, BW⟩ := hrel
    by_cases hlt : kk < n
    · have hltz : (kk : Int) < (n : Int) := by omega
      obtain ⟨bb, off, x, rfl, hx, hb, hcell⟩ := hd.at_ hlt
      have hE : Ext w wr := (Ext.al w _).trans (BW.out.mono (by simp))
      obtain ⟨c0, c1, c2, c3⟩ := SlD.cells hcell hE
      have hsz : w.heap.size + 1 ≤ wr.heap.size := by have := BW.out.size; simpa using this
      have hl : (b.draws.take kk).length = kk := by have := hn.out; have := hn2.out; rw [List.length_take]; omega
      have htk : b.draws.take (kk + 1) = b.draws.take kk ++ [x] := by rw [List.take_add_one, hx]; rfl
      have HX := Lib.hid htk; clear hx hcell htk
      have HL := Lib.hid hl; clear hl
      have HE := Lib.hid hE; clear hE
      go_wp2_with (at_builtin; refine wpList_app_i rfl (.tmp 13) (.tmp 16) rfl (w.heap.size + 1) _ ((b.draws.take kk).map (·.number)) rfl ((OW.out.alloc _).alloc _) (wr.heap.size + 1) x.number rfl (by simp [go_sem]) (by rw [List.length_map, HL.out]; have := hn.out; have := hn2.out; omega) (by simp; omega) ?_)
      intro g cap w' hown hg2 hbel _
      have hb2 : Below (w.heap.size + 1) (w.alloc (.cells #[.int .i64 b.id, .int .i64 b.layers, .int .i64 b.dry.lo, .int .i64 b.dry.hi, .slice (some ⟨bb, off, none⟩) n cp, .slice A2 n2 cp2] 27)) w' := ((BW.out.alloc (by omega) _).alloc (by simp; omega) _).trans hbel
      have HO := Lib.hid hown; clear hown
      have HB := Lib.hid hb2; clear hb2 hbel
      go_wp2
      go_roundg (n - (kk + 1))
      case measure => omega
      case rel => exact ⟨kk + 1, by omega, by omega, rfl, by
        have := HO.out
        show OwnI w' (w.heap.size + 1) _ _
        rw [show (b.draws.take (kk + 1)).map (·.number) = (b.draws.take kk).map (·.number) ++ [x.number] from by rw [HX.out]; simp]
        simpa [List.length_map, HL.out] using this, HB.out⟩
    · have HE := Lib.hid (show kk = n by omega)
      go_wp2
      go_ret
      exact ⟨_, rfl, by have := OW.out.sl; rwa [List.take_of_length_le (by have := HE.out; have := hn.out; have := hn2.out; omega)] at this, (Ext.al w _).trans (BW.out.mono (by simp))⟩

set_option maxHeartbeats 400000 in
theorem f60_any (b : Bale) (dv wv : Value) (w : World) (hd : SlD w dv b.draws) (hw : SlW w wv b.weighs) (hlen : b.weighs.length < 1000000) :
    Calls Tryd.prog 60 #[valB b dv wv] w fun e w' => ∃ v, e = .returned v ∧ SlI w' v (b.weighs.map (·.number)) ∧ Ext w w' := by
  obtain ⟨A, n, cp, rfl, hn, hlc, hcm⟩ := hd.form
  obtain ⟨A2, n2, cp2, rfl, hn2, hlc2, hcm2⟩ := hw.form
  go_enter Tryd.func60, Tryd.ntmps60
  go_wp2
  go_loopg [3, 9] n2 (fun gg v s wr => ∃ kk : Nat, kk ≤ n2 ∧ n2 - kk ≤ gg ∧ s = .int .i64 kk ∧ Aside (OwnI wr (w.heap.size + 1) v ((b.weighs.take kk).map (·.number))) ∧ Aside (Below (w.heap.size + 1) (w.alloc (.cells #[.int .i64 b.id, .int .i64 b.layers, .int .i64 b.dry.lo, .int .i64 b.dry.hi, .slice A n cp, .slice A2 n2 cp2] 27)) wr))
  case atStart => exact ⟨0, Nat.zero_le _, by omega, rfl, World.ownsRow_nil _ _ _ _, Below.refl _ _⟩
  case round =>
    obtain ⟨kk, hkk, hg, rfl, OW, BW⟩ := hrel
    by_cases hlt : kk < n2
    · have hltz : (kk : Int) < (n2 : Int) := by omega
      obtain ⟨bb, off, x, rfl, hx, hb, hcell⟩ := hw.at_ hlt
      have hE : Ext w wr := (Ext.al w _).trans (BW.out.mono (by simp))
      obtain ⟨c0, c1, c2, c3⟩ := SlW.cells hcell hE
      have hsz : w.heap.size + 1 ≤ wr.heap.size := by have := BW.out.size; simpa using this
      have hl : (b.weighs.take kk).length = kk := by have := hn.out; have := hn2.out; rw [List.length_take]; omega
      have htk : b.weighs.take (kk + 1) = b.weighs.take kk ++ [x] := by rw [List.take_add_one, hx]; rfl
      have HX := Lib.hid htk; clear hx hcell htk
      have HL := Lib.hid hl; clear hl
      have HE := Lib.hid hE; clear hE
      go_wp2_with (at_builtin; refine wpList_app_i rfl (.tmp 13) (.tmp 16) rfl (w.heap.size + 1) _ ((b.weighs.take kk).map (·.number)) rfl ((OW.out.alloc _).alloc _) (wr.heap.size + 1) x.number rfl (by simp [go_sem]) (by rw [List.length_map, HL.out]; have := hn.out; have := hn2.out; omega) (by simp; omega) ?_)
      intro g cap w' hown hg2 hbel _
      have hb2 : Below (w.heap.size + 1) (w.alloc (.cells #[.int .i64 b.id, .int .i64 b.layers, .int .i64 b.dry.lo, .int .i64 b.dry.hi, .slice A n cp, .slice (some ⟨bb, off, none⟩) n2 cp2] 27)) w' := ((BW.out.alloc (by omega) _).alloc (by simp; omega) _).trans hbel
      have HO := Lib.hid hown; clear hown
      have HB := Lib.hid hb2; clear hb2 hbel
      go_wp2
      go_roundg (n2 - (kk + 1))
      case measure => omega
      case rel => exact ⟨kk + 1, by omega, by omega, rfl, by
        have := HO.out
        show OwnI w' (w.heap.size + 1) _ _
        rw [show (b.weighs.take (kk + 1)).map (·.number) = (b.weighs.take kk).map (·.number) ++ [x.number] from by rw [HX.out]; simp]
        simpa [List.length_map, HL.out] using this, HB.out⟩
    · have HE := Lib.hid (show kk = n2 by omega)
      go_wp2
      go_ret
      exact ⟨_, rfl, by have := OW.out.sl; rwa [List.take_of_length_le (by have := HE.out; have := hn.out; have := hn2.out; omega)] at this, (Ext.al w _).trans (BW.out.mono (by simp))⟩
end Go.Proofs.YtcoiahjehlplfaaDoor
