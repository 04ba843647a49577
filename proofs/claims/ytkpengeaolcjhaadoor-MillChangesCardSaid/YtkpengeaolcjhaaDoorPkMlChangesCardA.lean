/- slices.Clone at cottons; a list's row gets other lists. -/
import Derived.Test.YtkpengeaolcjhaaDoorPkMlTellsCardV
import Derived.Test.YtkpengeaolcjhaaDoorPkMlTellsCardO
import Derived.Test.YtkpengeaolcjhaaDoorPkTdCardB
import Derived.Test.YtkpengeaolcjhaaDoorPkMlTellsCardS
namespace Go.Proofs.YtkpengeaolcjhaaDoor
open Go.RowKit Go.Shelf Go.Lib
set_option maxRecDepth 100000
set_option linter.unusedSimpArgs false

@[go_sem] theorem eql22nil (w : World) (a : Option Addr) (n c : Nat) : (binOp .eql 22 (.slice a n c) (.slice none 0 0)).run Tryd.prog w = .ok (.bool a.isNone) w := Lib.run_eql_slice_nil w 22 61 a n c 0 0 Tryd.underlying22
theorem wpList_copyC {ops : Array Oper} {rest : List Oper} {o : Oper} {a : Act} {Q : Exit → Act → World → Prop} {W : World} (hgd : o.guard = none) (s x : Operand)
    (ho : o.op = .call { callee := .builtin .append, args := #[s, x], argTypes := #[22, 22] }) {base g : Nat} (hs : a.eval s = .slice (some ⟨g, 0, none⟩) 0 0) {v : Value} (hx : a.eval x = v)
    (hB : Blk W g 61 #[]) (hg : base ≤ g) (hW : base ≤ W.heap.size) {l : List Rc} (hl : SlC W v l) (hlen : l.length ≤ 1000)
    (h : ∀ v' W', Own encC 61 8 W' base v' l → Ext W W' → wpList Tryd.prog ops Q rest (a.put o.dst v') W') : wpList Tryd.prog ops Q (o :: rest) a W := by
  obtain ⟨v', W', hr, h1, h2⟩ := run_copy (t := 22) (ty := o.type) (enc := encC) (sz := 8) Tryd.underlying22 info61x rfl (by decide) (by decide) (fun _ => rfl) hB hg hW hl hlen
  refine wpList_plain hgd fun K hK => ?_
  unfold Oper.wp execOp
  simp only [ho, resolve, invoke, builtin, Sem.run_bind, Sem.run_pure, Result.andThen_ok, List.map_toArray, List.map_cons, List.map_nil, hs, hx, hr]
  exact hK _ _ (h v' W' h1 h2)
theorem cloneC_any (v : Value) (l : List Rc) (w : World) (hs : SlC w v l) (hlen : l.length ≤ 1000) :
    Calls Tryd.prog 72 #[v] w fun e w' => ∃ v', e = .returned v' ∧ Own encC 61 8 w' w.heap.size v' l ∧ Ext w w' := by
  have HS := Lib.hid hs
  have HL := Lib.hid hlen
  obtain ⟨A, n, c, rfl, hn, hlc, hcm⟩ := hs.form
  have HN := Lib.hid (show A.isNone = true → l = [] ∧ n = 0 from fun h => by
    obtain ⟨A', c', hv, _, _, hx⟩ := hs
    injection hv with e1 e2 e3
    subst e1 e3
    have hl0 : l = [] := by
      by_cases h0 : 0 < l.length
      · obtain ⟨_, _, h1, _⟩ := hx h0; rw [h1] at h; cases h
      · exact List.eq_nil_of_length_eq_zero (by omega)
    exact ⟨hl0, by rw [e2, hl0]; rfl⟩)
  clear hs hlen hn hlc hcm
  cases hN : A.isNone with
  | true =>
    obtain ⟨rfl, rfl⟩ := HN.out hN
    clear HS HL HN
    go_enter Tryd.func72, Tryd.ntmps72
    go_wp2
    go_ret
    exact ⟨_, rfl, Own.nil _ _, Ext.refl _⟩
  | false =>
    clear HN
    go_enter Tryd.func72, Tryd.ntmps72
    go_wp2_with (at_builtin; refine wpList_copyC rfl (.tmp 5) (.tmp 6) rfl (base := w.heap.size) (g := w.heap.size) rfl rfl (Blk.new _ _ _) (Nat.le_refl _) (by simp) (HS.out.ext (Ext.al _ _)) HL.out ?_)
    intro v1 w1 hown hext
    have HE := Lib.hid (show Ext w w1 from (Ext.al _ _).trans hext)
    go_wp2
    go_ret
    exact ⟨_, rfl, hown, HE.out⟩
/-! A row with other lists. -/
def relist (r : Rc) (da : Option Addr) (dn dc : Nat) (wa : Option Addr) (wn wc : Nat) : Rc := ⟨r.c, da, dn, dc, wa, wn, wc⟩
theorem flat_set2 (da : Option Addr) (dn dc : Nat) (wa : Option Addr) (wn wc : Nat) : ∀ (L : List Rc) (k : Nat) (r : Rc), L[k]? = some r → ((L.flatMap encC).set (k * 8 + 4) (.slice da dn dc)).set (k * 8 + 5) (.slice wa wn wc) = (L.set k (relist r da dn dc wa wn wc)).flatMap encC
  | [], k, r, h => by simp at h
  | x :: L, 0, r, h => by
    simp at h
    subst h
    rfl
  | x :: L, k + 1, r, h => by
    have ih := flat_set2 da dn dc wa wn wc L k r (by simpa using h)
    rw [List.flatMap_cons, List.set_cons_succ, List.flatMap_cons, ← ih]
    rw [show (k + 1) * 8 + 4 = (encC x).length + (k * 8 + 4) by rw [encC_len]; omega, show (k + 1) * 8 + 5 = (encC x).length + (k * 8 + 5) by rw [encC_len]; omega]
    rw [List.set_append_right _ _ (by omega), List.set_append_right _ _ (by omega)]
    simp
/-- The block of a list of cottons. -/
theorem rowC_of {W : World} {base n c : Nat} {A : Option Addr} {L : List Rc} (h : Own encC 61 8 W base (.slice A n c) L) (h0 : 0 < L.length) : ∃ g cur, A = some ⟨g, 0, none⟩ ∧ base ≤ g ∧ Blk W g 61 cur ∧ n = L.length ∧ L.length ≤ c ∧ c ≤ maxLen ∧ cur.size = c * 8 ∧ cur.toList.take (L.length * 8) = L.flatMap encC := by
  rcases own_formG h with ⟨h1, h2⟩ | ⟨g, cap, cur, h1, hb, hh, hlc, hmx, hcs, ht⟩
  · rw [h2] at h0; simp at h0
  · obtain ⟨rfl, rfl, rfl⟩ : A = some ⟨g, 0, none⟩ ∧ n = L.length ∧ c = cap := by simpa using h1
    exact ⟨g, cur, rfl, hb, hh, rfl, hlc, hmx, hcs, ht⟩
theorem rowC_own {W : World} {base g c : Nat} {cur : Array Value} {L : List Rc} (hb : base ≤ g) (hB : Blk W g 61 cur) (hlc : L.length ≤ c) (hmx : c ≤ maxLen) (hcs : cur.size = c * 8) (ht : cur.toList.take (L.length * 8) = L.flatMap encC) : Own encC 61 8 W base (.slice (some ⟨g, 0, none⟩) L.length c) L :=
  ⟨enc_len (enc := encC) encC_len L, .inr ⟨g, c, cur, rfl, hb, hB, hlc, hmx, hcs, ht⟩⟩
end Go.Proofs.YtkpengeaolcjhaaDoor
/- mill.copied. -/
namespace Go.Proofs.YtkpengeaolcjhaaDoor
open Go.RowKit Go.Shelf Go.Lib
set_option maxRecDepth 100000
set_option linter.unusedSimpArgs false

/-- What a store to one of the row's two lists leaves. -/
def RDo (b : Bale) (base g o : Nat) (W W' : World) : Prop :=
  (∀ v, GoodS encD g b.draws v W → GoodS encD g b.draws v W') ∧ (∀ v, GoodS encW g b.weighs v W → GoodS encW g b.weighs v W') ∧ (∀ v, Own encD 81 4 W base v b.draws → Own encD 81 4 W' base v b.draws) ∧ (∀ v, Own encW 141 4 W base v b.weighs → Own encW 141 4 W' base v b.weighs) ∧
    (FrC encD 81 base g (o + 4) b.draws W → FrC encD 81 base g (o + 4) b.draws W') ∧ (FrC encW 141 base g (o + 5) b.weighs W → FrC encW 141 base g (o + 5) b.weighs W')
theorem RDo.refl {b : Bale} {base g o : Nat} (W : World) : RDo b base g o W W := ⟨fun _ h => h, fun _ h => h, fun _ h => h, fun _ h => h, fun h => h, fun h => h⟩
theorem RDo.ext {b : Bale} {base g o : Nat} {W W' : World} (e : Ext W W') : RDo b base g o W W' := ⟨fun _ h => h.ext e, fun _ h => h.ext e, fun _ h => h.ext e, fun _ h => h.ext e, fun h => h.ext e, fun h => h.ext e⟩
theorem RDo.set4 {b : Bale} {base g o : Nat} {W : World} {dx : Value} (hg : g < base) (hd : Own encD 81 4 W base dx b.draws) : RDo b base g o W (W.setCell ⟨g, o + 4, none⟩ dx) ∧ ((∃ u, W.cell? ⟨g, o + 4, none⟩ = some u) → FrC encD 81 base g (o + 4) b.draws (W.setCell ⟨g, o + 4, none⟩ dx)) :=
  have key : (∃ u, W.cell? ⟨g, o + 4, none⟩ = some u) → FrC encD 81 base g (o + 4) b.draws (W.setCell ⟨g, o + 4, none⟩ dx) := fun ⟨_, hu⟩ => ⟨dx, World.cell?_setCell_same (h := hu) .., hd.far hg _⟩
  ⟨⟨fun _ h => h.set _, fun _ h => h.set _, fun _ h => h.far hg _, fun _ h => h.far hg _, fun ⟨u, hu, _⟩ => key ⟨u, hu⟩, fun ⟨v, h1, h2⟩ => ⟨v, (World.cell?_setCell_other (h := by intro e; injection e with _ e _; omega) ..).trans h1, h2.far hg _⟩⟩, key⟩
theorem RDo.set5 {b : Bale} {base g o : Nat} {W : World} {wx : Value} (hg : g < base) (hd : Own encW 141 4 W base wx b.weighs) : RDo b base g o W (W.setCell ⟨g, o + 5, none⟩ wx) ∧ ((∃ u, W.cell? ⟨g, o + 5, none⟩ = some u) → FrC encW 141 base g (o + 5) b.weighs (W.setCell ⟨g, o + 5, none⟩ wx)) :=
  have key : (∃ u, W.cell? ⟨g, o + 5, none⟩ = some u) → FrC encW 141 base g (o + 5) b.weighs (W.setCell ⟨g, o + 5, none⟩ wx) := fun ⟨_, hu⟩ => ⟨wx, World.cell?_setCell_same (h := hu) .., hd.far hg _⟩
  ⟨⟨fun _ h => h.set _, fun _ h => h.set _, fun _ h => h.far hg _, fun _ h => h.far hg _, fun ⟨v, h1, h2⟩ => ⟨v, (World.cell?_setCell_other (h := by intro e; injection e with _ e _; omega) ..).trans h1, h2.far hg _⟩, fun ⟨u, hu, _⟩ => key ⟨u, hu⟩⟩, key⟩
/-- The world while a row gets its lists: but for block g nothing has turned, and of block g two cells at most. -/
def CDo (b : Bale) (w : World) (g o : Nat) (cur : Array Value) (W : World) : Prop := w.grownBy W (some g) ∧ ∃ dx wx, Blk W g 61 ((cur.setIfInBounds (o + 4) dx).setIfInBounds (o + 5) wx) ∧ GoodS encD g b.draws dx W ∧ GoodS encW g b.weighs wx W
theorem CDo.ext {b : Bale} {w : World} {g o : Nat} {cur : Array Value} {W W' : World} (h : CDo b w g o cur W) (e : Ext W W') : CDo b w g o cur W' := by
  obtain ⟨h1, dx, wx, h2, h3, h4⟩ := h
  exact ⟨grown_ext h1 e, dx, wx, h2.ext e, h3.ext e, h4.ext e⟩
theorem two_cells {W : World} {g o : Nat} {cur : Array Value} {dx wx : Value} (hB : Blk W g 61 ((cur.setIfInBounds (o + 4) dx).setIfInBounds (o + 5) wx)) (ho : o + 5 < cur.size) : W.cell? ⟨g, o + 4, none⟩ = some dx ∧ W.cell? ⟨g, o + 5, none⟩ = some wx ∧ (∀ i, W.frozen? ⟨g, i, none⟩ = false) ∧ g < W.heap.size := by
  refine ⟨?_, ?_, hB.frozen, hB.lt⟩
  · rw [hB.cell (o + 4), Array.getElem?_setIfInBounds, if_neg (by omega), Array.getElem?_setIfInBounds, if_pos rfl, if_pos (by omega)]
  · rw [hB.cell (o + 5), Array.getElem?_setIfInBounds, if_pos rfl, if_pos (by simpa using ho)]
theorem two_set4 {W : World} {g o : Nat} {cur : Array Value} {dx wx : Value} (hB : Blk W g 61 ((cur.setIfInBounds (o + 4) dx).setIfInBounds (o + 5) wx)) (u : Value) : Blk (W.setCell ⟨g, o + 4, none⟩ u) g 61 ((cur.setIfInBounds (o + 4) u).setIfInBounds (o + 5) wx) := by
  have h := hB.set_ (o + 4) u
  have e : ((cur.setIfInBounds (o + 4) dx).setIfInBounds (o + 5) wx).setIfInBounds (o + 4) u = (cur.setIfInBounds (o + 4) u).setIfInBounds (o + 5) wx := by
    apply Array.ext_getElem?
    intro i
    simp only [Array.getElem?_setIfInBounds, Array.size_setIfInBounds]
    by_cases h4 : o + 4 = i
    · subst h4
      simp
    · simp [h4]
  rwa [e] at h
theorem two_set5 {W : World} {g o : Nat} {cur : Array Value} {dx wx : Value} (hB : Blk W g 61 ((cur.setIfInBounds (o + 4) dx).setIfInBounds (o + 5) wx)) (u : Value) : Blk (W.setCell ⟨g, o + 5, none⟩ u) g 61 ((cur.setIfInBounds (o + 4) dx).setIfInBounds (o + 5) u) := by
  have h := hB.set_ (o + 5) u
  have e : ((cur.setIfInBounds (o + 4) dx).setIfInBounds (o + 5) wx).setIfInBounds (o + 5) u = (cur.setIfInBounds (o + 4) dx).setIfInBounds (o + 5) u := by
    apply Array.ext_getElem?
    intro i
    simp only [Array.getElem?_setIfInBounds, Array.size_setIfInBounds]
    by_cases h5 : o + 5 = i
    · subst h5
      simp
    · simp [h5]
  rwa [e] at h
theorem two_same {cur : Array Value} {o : Nat} {dx wx : Value} (h4 : cur[o + 4]? = some dx) (h5 : cur[o + 5]? = some wx) : (cur.setIfInBounds (o + 4) dx).setIfInBounds (o + 5) wx = cur := by
  apply Array.ext_getElem?
  intro i
  simp only [Array.getElem?_setIfInBounds, Array.size_setIfInBounds]
  by_cases e5 : o + 5 = i
  · subst e5
    rw [if_pos rfl, h5, if_pos (Array.getElem?_eq_some_iff.1 h5).1]
  · rw [if_neg e5]
    by_cases e4 : o + 4 = i
    · subst e4
      rw [if_pos rfl, h4, if_pos (Array.getElem?_eq_some_iff.1 h4).1]
    · rw [if_neg e4]
theorem offX_grown {w W : World} {g : Nat} {t : TypeId} {cs : Array Value} (hB : Blk w g t cs) (hG : w.grownBy W (some g)) : OffX t w W := by
  intro b e' cs' hne hb
  refine hb.grown hG ?_
  intro e
  injection e with e
  subst e
  have h1 : w.heap[b]? = some (.cells cs t (0, 0)) := hB
  have h2 : w.heap[b]? = some (.cells cs' e' (0, 0)) := hb
  rw [h1] at h2
  injection h2 with h2
  injection h2 with _ h2 _
  exact hne h2.symm
set_option maxHeartbeats 4000000 in
theorem copiedM_any (lots size : Int) (l : List Rc) (sv : Value) (w : World) (hs : MlC w sv l) (hlen : l.length ≤ 1000) (hb : ∀ r ∈ l, r.c.b.draws.length ≤ 1000 ∧ r.c.b.weighs.length ≤ 1000) :
    Calls Tryd.prog 73 #[valM lots size sv] w fun e w' => (∃ v L, e = .returned (valM lots size v) ∧ TwinL w.heap.size (l.map (·.c)) v L w') ∧ Ext w w' := by
  have HS := Lib.hid hs; have HLN := Lib.hid hlen; have HBN := Lib.hid hb
  obtain ⟨A, n, c, rfl, hn, hlc, hcm⟩ := hs.1.form
  have HL := Lib.hid (show l.length = n from hn.out.symm)
  have hn1000 : n ≤ 1000 := by have := hn.out; omega
  clear hs hn hlen hb
  go_enter Tryd.func73, Tryd.ntmps73
  go_wp2_with fail
  obtain ⟨w2, hw2⟩ : ∃ w2, w2 = (w.alloc (.cells #[.int .i64 lots, .int .i64 size, .slice A n c] 24)).alloc (.cells #[.int .i64 0, .int .i64 0, .slice none 0 0] 24) := ⟨_, rfl⟩
  rw [← hw2]
  have B1 := Lib.hid (show Blk w2 w.heap.size 24 #[.int .i64 lots, .int .i64 size, .slice A n c] from hw2 ▸ (Blk.new _ _ _).alloc _)
  have B2 := Lib.hid (show Blk w2 (w.heap.size + 1) 24 #[.int .i64 0, .int .i64 0, .slice none 0 0] from hw2 ▸ Blk.at_ (by simp))
  have E2 := Lib.hid (show Ext w w2 from hw2 ▸ (Ext.al _ _).alloc _)
  have HZ2 := Lib.hid (show w2.heap.size = w.heap.size + 2 by rw [hw2]; simp)
  clear hw2
  refine (cloneC_any _ l w2 (HS.out.1.ext E2.out) HLN.out).mono ?_
  rintro e w3 ⟨v', rfl, hown, hE⟩
  have O3 := Lib.hid hown
  have E3 := Lib.hid (E2.out.trans hE)
  replace B1 := Lib.hid (B1.out.ext hE); replace B2 := Lib.hid (B2.out.ext hE)
  obtain ⟨A3, n3, c3, rfl, hn3, -, -⟩ := (show SlC w3 v' l from Own.sl (enc := encC) encC_len hown).form
  obtain rfl : n3 = n := by have := hn3.out; have := HL.out; omega
  clear hown hE hn3 E2
  obtain ⟨x0, x1, x2, xf, xl⟩ := B1.out.c3
  go_upto_region 2 with (fail)
  obtain ⟨w4, hw4⟩ : ∃ w4, w4 = w3.setCell ⟨w.heap.size, 2, none⟩ (.slice A3 n3 c3) := ⟨_, rfl⟩
  rw [← hw4]
  have HO4 := Lib.hid (show w.heap.size < w2.heap.size by have := HZ2.out; omega)
  have K1 := Lib.hid (show Blk w4 w.heap.size 24 #[.int .i64 lots, .int .i64 size, .slice A3 n3 c3] by
    rw [hw4]; have h := B1.out.set_ 2 (.slice A3 n3 c3); simpa using h)
  have K2 := Lib.hid (show Blk w4 (w.heap.size + 1) 24 #[.int .i64 0, .int .i64 0, .slice none 0 0] from hw4 ▸ B2.out.far (by dsimp only; omega) _)
  have E4 := Lib.hid (show Ext w w4 from hw4 ▸ E3.out.setCell (Nat.le_refl _) _)
  have O4 := Lib.hid (show Own encC 61 8 w4 w2.heap.size (.slice A3 n3 c3) l from hw4 ▸ O3.out.far HO4.out _)
  clear hw4 B1 B2 E3 O3 x0 x1 x2 xf xl
  have y0 := K1.out.c3
  go_wp2
  clear y0
  go_loopg [12] n3 (fun gg s wr => ∃ (k : Nat) (L : List Rc), k ≤ n3 ∧ n3 - k ≤ gg ∧ s = .int .i64 (k : Int) ∧ L.map (·.c) = l.map (·.c) ∧ (∀ j : Nat, k ≤ j → L[j]? = l[j]?) ∧ Aside (∀ (j : Nat) (r : Rc), j < k → L[j]? = some r → OwnR w2.heap.size r wr) ∧ Aside (Own encC 61 8 wr w2.heap.size (.slice A3 n3 c3) L) ∧ Aside (Blk wr w.heap.size 24 #[.int .i64 lots, .int .i64 size, .slice A3 n3 c3]) ∧ Aside (Blk wr (w.heap.size + 1) 24 #[.int .i64 0, .int .i64 0, .slice none 0 0]) ∧ Aside (Ext w wr))
  case atStart => exact ⟨0, l, by omega, by omega, by simp, rfl, fun _ _ => rfl, fun j r h => absurd h (by omega), O4.out, K1.out, K2.out, E4.out⟩
  case round =>
    obtain ⟨k, L, hk, hgg, rfl, hmap, hrest, HDN, OQ, Q1, Q2, EQ⟩ := hrel
    clear O4 K1 K2 E4
    have HMAP := Lib.hid hmap; have HRES := Lib.hid hrest
    have HLL := Lib.hid (show L.length = n3 by have h := congrArg List.length hmap; simp at h; have := HL.out; omega)
    clear hmap hrest
    obtain ⟨y0, y1, y2, yf, yl⟩ := Q1.out.c3
    by_cases hlt : k < n3
    · have hltz : (k : Int) < (n3 : Int) := by omega
      obtain ⟨r, hr⟩ : ∃ r, l[k]? = some r := ⟨_, List.getElem?_eq_getElem (by have := HL.out; omega)⟩
      have HR := Lib.hid hr
      have HLR := Lib.hid (show L[k]? = some r by rw [HRES.out k (Nat.le_refl _)]; exact hr)
      obtain ⟨g, cur, rfl, hbg, hB, hnL, hlc3, hmx, hcs, ht⟩ := rowC_of OQ.out (by have := HLL.out; omega)
      have HB := Lib.hid hB
      have HBG := Lib.hid hbg
      have ho : k * 8 + 5 < cur.size := by rw [hcs]; have := HLL.out; omega
      have HCS := Lib.hid (And.intro hlc3 (And.intro hmx (And.intro hcs ht)))
      have hsl : SlC wr (.slice (some ⟨g, 0, none⟩) n3 c3) L := Own.sl (enc := encC) encC_len OQ.out
      obtain ⟨b3, off3, x', e3, hx', -, hcell⟩ := hsl.at_ hlt
      obtain ⟨rfl, rfl⟩ : g = b3 ∧ 0 = off3 := by simpa using e3
      obtain rfl : x' = r := by rw [HLR.out] at hx'; injection hx' with h; exact h.symm
      obtain ⟨c0, c1, c2, c3', c4, c5, c6, c7⟩ := SlC.cells hcell (Ext.refl _)
      simp only [Nat.zero_add] at c0 c1 c2 c3' c4 c5 c6 c7
      have HDW := Lib.hid (HS.out.2 x' (List.mem_of_getElem? hr))
      have HNB := Lib.hid (HBN.out x' (List.mem_of_getElem? hr))
      have hgw : g < wr.heap.size := hB.lt
      clear hr hB hbg hnL hlc3 hmx hcs ht hsl e3 hx' hcell
      go_upto_region 6 with (fail)
      have HST := Lib.hid (show CDo x'.c.b wr g (k * 8) cur wr.drew from ⟨⟨rfl, rfl, rfl, Nat.le_refl _, fun _ _ _ => rfl⟩, .slice x'.da x'.dn x'.dc, .slice x'.wa x'.wn x'.wc, by
        rw [two_same (by rw [← HB.out.cell]; exact c4) (by rw [← HB.out.cell]; exact c5)]
        exact HB.out.ext (Ext.refl _).drew, GoodS.old HDW.out.1 (by have := HBG.out; have := HO4.out; omega) EQ.out.drew, GoodS.old HDW.out.2 (by have := HBG.out; have := HO4.out; omega) EQ.out.drew⟩)
      clear c0 c1 c2 c3' c4 c5 c6 c7 y0 y1 y2 yf yl
      refine wp_region_tame (CDo x'.c.b wr g (k * 8) cur) (RDo x'.c.b wr.heap.size g (k * 8)) (by kernel_rfl) 38 rfl (by decide +kernel) HST.out ?_
      repeat
        (apply tame_q rfl
         (intro ρ W hC hr hD
          obtain ⟨hrc, hrg, hrf, hrs⟩ := hr
          simp [go_sem] at hD
          go_simp
          first | exact ⟨⟨hC, RDo.refl _⟩, rfl⟩ | exact rfl)
         simp only [List.nil_append, List.cons_append])
      apply tame_v rfl (GoodS encD g x'.c.b.draws) (fun v W W' _ hR h => hR.1 v h)
      · intro ρ W hC hr hD
        obtain ⟨hrc, hrg, hrf, hrs⟩ := hr
        simp [go_sem] at hD
        obtain ⟨hg, dx, wx, hB, g1, g2⟩ := id hC
        obtain ⟨t4, t5, -, -⟩ := two_cells hB ho
        go_simp
        exact ⟨hC, RDo.refl _⟩
      simp only [List.nil_append, List.cons_append]
      apply tame_v rfl (fun v W => Own encD 81 4 W wr.heap.size v x'.c.b.draws) (fun v W W' _ hR h => hR.2.2.1 v h)
      · intro ρ W hC hr hD
        obtain ⟨hrc, hrg, hrf, hrs⟩ := hr
        simp [go_sem] at hD
        go_simp
        refine (cloneD_any _ x'.c.b.draws W hD.1 HNB.out.1).mono ?_
        rintro e w' ⟨v', rfl, ho, hE⟩
        exact ⟨_, rfl, ⟨hC.ext hE, RDo.ext hE⟩, ho.mono hC.1.size⟩
      simp only [List.nil_append, List.cons_append]
      repeat
        (apply tame_q rfl
         (intro ρ W hC hr hD
          obtain ⟨hrc, hrg, hrf, hrs⟩ := hr
          simp [go_sem] at hD
          go_simp
          first | exact ⟨⟨hC, RDo.refl _⟩, rfl⟩ | exact rfl)
         simp only [List.nil_append, List.cons_append])
      apply tame_v rfl (GoodS encW g x'.c.b.weighs) (fun v W W' _ hR h => hR.2.1 v h)
      · intro ρ W hC hr hD
        obtain ⟨hrc, hrg, hrf, hrs⟩ := hr
        simp [go_sem] at hD
        obtain ⟨hg, dx, wx, hB, g1, g2⟩ := id hC
        obtain ⟨t4, t5, -, -⟩ := two_cells hB ho
        go_simp
        exact ⟨hC, RDo.refl _⟩
      simp only [List.nil_append, List.cons_append]
      apply tame_v rfl (fun v W => Own encW 141 4 W wr.heap.size v x'.c.b.weighs) (fun v W W' _ hR h => hR.2.2.2.1 v h)
      · intro ρ W hC hr hD
        obtain ⟨hrc, hrg, hrf, hrs⟩ := hr
        simp [go_sem] at hD
        go_simp
        refine (cloneW_any _ x'.c.b.weighs W hD.1.1 HNB.out.2).mono ?_
        rintro e w' ⟨v', rfl, ho, hE⟩
        exact ⟨_, rfl, ⟨hC.ext hE, RDo.ext hE⟩, ho.mono hC.1.size⟩
      simp only [List.nil_append, List.cons_append]
      repeat
        (apply tame_q rfl
         (intro ρ W hC hr hD
          obtain ⟨hrc, hrg, hrf, hrs⟩ := hr
          simp [go_sem] at hD
          go_simp
          first | exact ⟨⟨hC, RDo.refl _⟩, rfl⟩ | exact rfl)
         simp only [List.nil_append, List.cons_append])
      apply tame_n (fun _ W => FrC encD 81 wr.heap.size g (k * 8 + 4) x'.c.b.draws W) (fun _ W W' _ hR h => hR.2.2.2.2.1 h)
      · intro ρ W hC hr hD
        obtain ⟨hrc, hrg, hrf, hrs⟩ := hr
        simp [go_sem] at hD
        have h5 : Own encD 81 4 W wr.heap.size (ρ (.tmp 26)) x'.c.b.draws := by first | exact hD.1 | exact hD.2.1 | exact hD.2 | exact hD.2.2.1
        have h33 : ρ (.tmp 33) = .pointer (some ⟨g, k * 8 + 4, none⟩) := by first | exact hD.1 | exact hD.2.1 | exact hD.2 | exact hD.2.2.1
        clear hD
        obtain ⟨hg, dx, wx, hB, g1, g2⟩ := hC
        obtain ⟨t4, t5, tf, tl⟩ := two_cells hB ho
        obtain ⟨Ad, nd, cd, ed, -, -, -⟩ := (show SlD W (ρ (.tmp 26)) x'.c.b.draws from h5.sl (fun _ => rfl)).form
        rw [ed] at h5
        have H5 := Lib.hid h5; have HBX := Lib.hid hB; have HG := Lib.hid hg; have G2 := Lib.hid g2
        clear h5 hB hg g1 g2
        go_simp
        obtain ⟨r1, r2⟩ := RDo.set4 (b := x'.c.b) (base := wr.heap.size) (o := k * 8) (W := W) hgw H5.out
        exact ⟨⟨⟨grown_set HG.out (p := ⟨g, k * 8 + 4, none⟩) (.inl rfl) _, _, _, two_set4 HBX.out _, GoodS.own (fun _ => rfl) (H5.out.far (a := ⟨g, k * 8 + 4, none⟩) hgw _) hgw, G2.out.set _⟩, r1⟩, r2 ⟨_, t4⟩⟩
      simp only [List.nil_append, List.cons_append]
      repeat
        (apply tame_q rfl
         (intro ρ W hC hr hD
          obtain ⟨hrc, hrg, hrf, hrs⟩ := hr
          simp [go_sem] at hD
          go_simp
          first | exact ⟨⟨hC, RDo.refl _⟩, rfl⟩ | exact rfl)
         simp only [List.nil_append, List.cons_append])
      apply tame_n (fun _ W => FrC encW 141 wr.heap.size g (k * 8 + 5) x'.c.b.weighs W) (fun _ W W' _ hR h => hR.2.2.2.2.2 h)
      · intro ρ W hC hr hD
        obtain ⟨hrc, hrg, hrf, hrs⟩ := hr
        simp [go_sem] at hD
        have h5 : Own encW 141 4 W wr.heap.size (ρ (.tmp 31)) x'.c.b.weighs := by first | exact hD.1 | exact hD.2.1 | exact hD.2 | exact hD.2.2.1
        have h33 : ρ (.tmp 35) = .pointer (some ⟨g, k * 8 + 5, none⟩) := by first | exact hD.1 | exact hD.2.1 | exact hD.2 | exact hD.2.2.1
        clear hD
        obtain ⟨hg, dx, wx, hB, g1, g2⟩ := hC
        obtain ⟨t4, t5, tf, tl⟩ := two_cells hB ho
        obtain ⟨Ad, nd, cd, ed, -, -, -⟩ := (show SlW W (ρ (.tmp 31)) x'.c.b.weighs from h5.sl (fun _ => rfl)).form
        rw [ed] at h5
        have H5 := Lib.hid h5; have HBX := Lib.hid hB; have HG := Lib.hid hg; have G1 := Lib.hid g1
        clear h5 hB hg g1 g2
        go_simp
        obtain ⟨r1, r2⟩ := RDo.set5 (b := x'.c.b) (base := wr.heap.size) (o := k * 8) (W := W) hgw H5.out
        exact ⟨⟨⟨grown_set HG.out (p := ⟨g, k * 8 + 5, none⟩) (.inl rfl) _, _, _, two_set5 HBX.out _, G1.out.set _, GoodS.own (fun _ => rfl) (H5.out.far (a := ⟨g, k * 8 + 5, none⟩) hgw _) hgw⟩, r1⟩, r2 ⟨_, t5⟩⟩
      simp only [List.nil_append, List.cons_append]
      refine tame_end 38 rfl rfl (fun ρ W hC hr hF => ?_)
      obtain ⟨hrc, hrg, hrf, hrs⟩ := hr
      simp [go_sem] at hF
      obtain ⟨f20, f21, f22, f23, f24, f25, f26, f27, f28, f29, f30, f31, f32, f33, fD, f34, f35, fW⟩ := hF
      obtain ⟨hg, dx, wx, hB, -, -⟩ := hC
      obtain ⟨t4, t5, -, -⟩ := two_cells hB ho
      obtain ⟨dx', e4, o1⟩ := fD
      obtain ⟨wx', e5, o2⟩ := fW
      obtain rfl : dx' = dx := by rw [e4] at t4; injection t4
      obtain rfl : wx' = wx := by rw [e5] at t5; injection t5
      obtain ⟨Ad, nd, cd, rfl, -, -, -⟩ := (show SlD W dx' x'.c.b.draws from o1.sl (fun _ => rfl)).form
      obtain ⟨Aw, nw, cw, rfl, -, -, -⟩ := (show SlW W wx' x'.c.b.weighs from o2.sl (fun _ => rfl)).form
      have OF := Lib.hid (offX_grown HB.out hg)
      have HLS := Lib.hid (show (L.set k (relist x' Ad nd cd Aw nw cw)).length = n3 by rw [List.length_set]; exact HLL.out)
      have ON := Lib.hid (show Own encC 61 8 W w2.heap.size (.slice (some ⟨g, 0, none⟩) n3 c3) (L.set k (relist x' Ad nd cd Aw nw cw)) by
        have h := rowC_own (L := L.set k (relist x' Ad nd cd Aw nw cw)) HBG.out hB (by rw [List.length_set]; exact HCS.out.1) HCS.out.2.1 (by simpa using HCS.out.2.2.1) (by
          rw [List.length_set, Array.toList_setIfInBounds, Array.toList_setIfInBounds, List.take_set, List.take_set, HCS.out.2.2.2]
          exact flat_set2 Ad nd cd Aw nw cw L k x' HLR.out)
        rwa [HLS.out] at h)
      have HDN2 := Lib.hid (show ∀ (j : Nat) (r : Rc), j < k + 1 → (L.set k (relist x' Ad nd cd Aw nw cw))[j]? = some r → OwnR w2.heap.size r W from fun j r hj h => by
        by_cases e : j = k
        · subst e
          rw [List.getElem?_set_self (by have := HLL.out; omega)] at h
          injection h with h
          subst h
          exact ⟨o1.mono (by have := HBG.out; omega), o2.mono (by have := HBG.out; omega)⟩
        · rw [List.getElem?_set_ne (Ne.symm e)] at h
          exact (HDN.out j r (by omega) h).off OF.out)
      have HMP2 := Lib.hid (show (L.set k (relist x' Ad nd cd Aw nw cw)).map (·.c) = l.map (·.c) by
        rw [List.map_set, ← HMAP.out]
        apply List.ext_getElem?
        intro j
        rw [List.getElem?_set]
        split
        · rename_i h
          subst h
          rw [List.getElem?_map, HLR.out]
          rw [if_pos (by rw [List.length_map, HLL.out]; exact hlt)]
          rfl
        · rfl)
      have HRS2 := Lib.hid (show ∀ j : Nat, k + 1 ≤ j → (L.set k (relist x' Ad nd cd Aw nw cw))[j]? = l[j]? from fun j hj => by
        rw [List.getElem?_set_ne (by omega)]
        exact HRES.out j (by omega))
      have N1 := Lib.hid (Q1.out.grown hg (by intro e; injection e with e; have := HBG.out; have := HO4.out; omega))
      have N2 := Lib.hid (Q2.out.grown hg (by intro e; injection e with e; have := HBG.out; have := HZ2.out; omega))
      have EN := Lib.hid (ext_grownP EQ.out hg (by have := HBG.out; have := HO4.out; omega))
      apply frame_to
      · go_simp
        exact rfl
      clear f20 f21 f22 f23 f24 f25 f26 f27 f28 f29 f30 f31 f32 f33 f34 f35 e4 e5 o1 o2 t4 t5 hg hB hrc hrg hrf hrs
      go_wp2
      go_roundg (n3 - (k + 1))
      case measure => omega
      case rel => exact ⟨k + 1, L.set k (relist x' Ad nd cd Aw nw cw), by omega, by omega, by simp, HMP2.out, HRS2.out, HDN2.out, ON.out, N1.out, N2.out, EN.out⟩
    · have hke : k = n3 := by omega
      subst hke
      obtain ⟨z0, z1, z2, zf, zl⟩ := Q2.out.c3
      have TW := Lib.hid (show TwinL w2.heap.size (l.map (·.c)) (.slice A3 k c3) L wr from ⟨OQ.out, fun r hr => by
        obtain ⟨j, hj⟩ := List.getElem?_of_mem hr
        exact HDN.out j r (by have := (List.getElem?_eq_some_iff.1 hj).1; have := HLL.out; omega) hj, HMAP.out⟩)
      go_wp2
      refine ret_set3N Q2.out fun W' ⟨b0, b1, b2⟩ hW => ?_
      refine bodyPost_ret (v := valM lots size (.slice A3 k c3)) (by simp [results, Tryd.results73, go_sem, b0, b1, b2]) rfl ?_
      have OF := offX_grown Q2.out hW
      exact ⟨⟨_, rfl, L, ⟨(TW.out.own.offX OF (by decide)).mono (by have := HO4.out; omega), fun r hr => ⟨((TW.out.lists r hr).1.offX OF (by decide)).mono (by have := HO4.out; omega), ((TW.out.lists r hr).2.offX OF (by decide)).mono (by have := HO4.out; omega)⟩, TW.out.map⟩⟩, ext_grownP EQ.out hW (by omega)⟩
end Go.Proofs.YtkpengeaolcjhaaDoor
/- The law's spoil of a mill: it writes into the mill's own memory alone. -/
namespace Go.Proofs.YtkpengeaolcjhaaDoor
open Go.RowKit Go.Shelf Go.Lib
set_option maxRecDepth 100000
set_option linter.unusedSimpArgs false
set_option linter.unusedVariables false

theorem flatC_drop' : ∀ (L : List Rc) (i : Nat), (L.flatMap encC).drop (i * 8) = (L.drop i).flatMap encC
  | L, 0 => by simp
  | [], i + 1 => by simp
  | x :: L, i + 1 => by
    rw [List.flatMap_cons, List.drop_succ_cons, ← flatC_drop' L i]
    rw [show (i + 1) * 8 = (encC x).length + i * 8 by rw [encC_len]; omega, List.drop_length_add_append]
/-- The shape of a list in blocks from base on below top. -/
def Shp (e : TypeId) (sz base top : Nat) (A : Option Addr) (n c : Nat) (W : World) : Prop :=
  n = 0 ∨ ∃ g cur, A = some ⟨g, 0, none⟩ ∧ base ≤ g ∧ g < top ∧ Blk W g e cur ∧ n * sz ≤ cur.size ∧ n ≤ 9223372036854775807
theorem Shp.ext {e : TypeId} {sz base top : Nat} {A : Option Addr} {n c : Nat} {W W' : World} (h : Shp e sz base top A n c W) (k : Ext W W') : Shp e sz base top A n c W' := by
  rcases h with h | ⟨g, cur, h1, h2, h3, h4, h5, h6⟩
  · exact .inl h
  · exact .inr ⟨g, cur, h1, h2, h3, h4.ext k, h5, h6⟩
theorem Shp.set {e : TypeId} {sz base top : Nat} {A : Option Addr} {n c : Nat} {W : World} (h : Shp e sz base top A n c W) (b o : Nat) (u : Value) : Shp e sz base top A n c (W.setCell ⟨b, o, none⟩ u) := by
  rcases h with h | ⟨g, cur, h1, h2, h3, h4, h5, h6⟩
  · exact .inl h
  · by_cases hb : b = g
    · subst hb
      exact .inr ⟨b, _, h1, h2, h3, h4.set_ o u, by rw [Array.size_setIfInBounds]; exact h5, h6⟩
    · exact .inr ⟨g, cur, h1, h2, h3, h4.far (fun e => hb e.symm) u, h5, h6⟩
theorem Shp.of_own {α : Type} {enc : α → List Value} {e : TypeId} {sz base top : Nat} {A : Option Addr} {n c : Nat} {W : World} {l : List α} (h : Own enc e sz W base (.slice A n c) l) (ht : W.heap.size ≤ top) : Shp e sz base top A n c W := by
  rcases own_formG h with ⟨h1, -⟩ | ⟨g, cap, cur, h1, hb, hh, hlc, hmx, hcs, -⟩
  · injection h1 with _ h1 _
    exact .inl h1
  · injection h1 with e1 e2 e3
    have hB : Blk W g e cur := hh
    exact .inr ⟨g, cur, e1, hb, by have := hB.lt; omega, hB, by rw [hcs, e2]; exact Nat.mul_le_mul_right _ hlc, by unfold maxLen at hmx; omega⟩
/-- What spoil needs of the cottons, whatever it has written so far. -/
structure SpI (L : List Rc) (A : Option Addr) (n base top : Nat) (W : World) : Prop where
  row : n = 0 ∨ ∃ g cur, A = some ⟨g, 0, none⟩ ∧ base ≤ g ∧ g < top ∧ Blk W g 61 cur ∧ n * 8 ≤ cur.size ∧ ∀ i r, L[i]? = some r → cur[i * 8 + 4]? = some (.slice r.da r.dn r.dc) ∧ cur[i * 8 + 5]? = some (.slice r.wa r.wn r.wc)
  ds : ∀ r ∈ L, Shp 81 4 base top r.da r.dn r.dc W
  ws : ∀ r ∈ L, Shp 141 4 base top r.wa r.wn r.wc W
theorem SpI.ext {L : List Rc} {A : Option Addr} {n base top : Nat} {W W' : World} (h : SpI L A n base top W) (k : Ext W W') : SpI L A n base top W' := by
  refine ⟨?_, fun r hr => (h.ds r hr).ext k, fun r hr => (h.ws r hr).ext k⟩
  rcases h.row with h0 | ⟨g, cur, h1, h2, h3, h4, h5⟩
  · exact .inl h0
  · exact .inr ⟨g, cur, h1, h2, h3, h4.ext k, h5⟩
theorem SpI.off {L : List Rc} {A : Option Addr} {n base top : Nat} {W : World} (h : SpI L A n base top W) {b : Nat} {t : TypeId} {cs : Array Value} (hB : Blk W b t cs) (ht : t ≠ 61) (o : Nat) (u : Value) : SpI L A n base top (W.setCell ⟨b, o, none⟩ u) := by
  refine ⟨?_, fun r hr => (h.ds r hr).set b o u, fun r hr => (h.ws r hr).set b o u⟩
  rcases h.row with h0 | ⟨g, cur, h1, h2, h3, h4, h5⟩
  · exact .inl h0
  · refine .inr ⟨g, cur, h1, h2, h3, h4.far (fun e => ?_) u, h5⟩
    dsimp only at e
    subst e
    have k1 : W.heap[g]? = some (.cells cs t (0, 0)) := hB
    have k2 : W.heap[g]? = some (.cells cur 61 (0, 0)) := h4
    rw [k1] at k2
    injection k2 with k2
    injection k2 with _ k2 _
    exact ht k2
theorem SpI.six {L : List Rc} {n base top g i : Nat} {W : World} (h : SpI L (some ⟨g, 0, none⟩) n base top W) (u : Value) : SpI L (some ⟨g, 0, none⟩) n base top (W.setCell ⟨g, i * 8 + 6, none⟩ u) := by
  refine ⟨?_, fun r hr => (h.ds r hr).set _ _ u, fun r hr => (h.ws r hr).set _ _ u⟩
  rcases h.row with h0 | ⟨g', cur, h1, h2, h3, h4, h5, h6⟩
  · exact .inl h0
  · obtain rfl : g = g' := by simpa using h1
    refine .inr ⟨g, _, rfl, h2, h3, h4.set_ _ u, by rw [Array.size_setIfInBounds]; exact h5, fun j r hj => ?_⟩
    simp only [Array.getElem?_setIfInBounds]
    rw [if_neg (by omega), if_neg (by omega)]
    exact h6 j r hj
theorem SpI.of_twin {base top n c : Nat} {cs : List Cot} {A : Option Addr} {L : List Rc} {W : World} (h : TwinL base cs (.slice A n c) L W) (ht : W.heap.size ≤ top) : SpI L A n base top W := by
  refine ⟨?_, fun r hr => Shp.of_own (h.lists r hr).1 ht, fun r hr => Shp.of_own (h.lists r hr).2 ht⟩
  rcases own_formG h.own with ⟨h1, -⟩ | ⟨g, cap, cur, h1, hb, hh, hlc, hmx, hcs, htk⟩
  · injection h1 with _ h1 _
    exact .inl h1
  · injection h1 with e1 e2 e3
    have hB : Blk W g 61 cur := hh
    refine .inr ⟨g, cur, e1, hb, by have := hB.lt; omega, hB, by rw [hcs, e2]; exact Nat.mul_le_mul_right _ hlc, fun i r hi => ?_⟩
    have hiL := (List.getElem?_eq_some_iff.1 hi).1
    have key : ∀ q, q < 8 → cur[i * 8 + q]? = (encC r)[q]? := fun q hq => by
      have h9 : (cur.toList.take (L.length * 8))[i * 8 + q]? = (L.flatMap encC)[i * 8 + q]? := by rw [htk]
      rw [List.getElem?_take, if_pos (by omega)] at h9
      rw [← Array.getElem?_toList, h9, ← List.getElem?_drop, flatC_drop', drop_at hi, List.flatMap_cons, List.getElem?_append_left (by rw [encC_len]; omega)]
    exact ⟨key 4 (by omega), key 5 (by omega)⟩
set_option maxHeartbeats 4000000 in
theorem spoilM_any (lots size : Int) (L : List Rc) (A : Option Addr) (n c base top : Nat) (w : World) (hI : SpI L A n base top w) (hn : n = L.length) (hn9 : n ≤ 1000) (ht : top ≤ w.heap.size) :
    Calls Tryd.prog 38 #[valM lots size (.slice A n c)] w fun e w' => (∃ v, e = .returned v) ∧ Gap base top w w' := by
  have HI := Lib.hid hI; have HN := Lib.hid hn; have HT := Lib.hid ht
  clear hI hn ht
  go_enter Tryd.func38, Tryd.ntmps38
  obtain ⟨w1, hw1⟩ : ∃ w1, w1 = w.alloc (.cells #[.int .i64 lots, .int .i64 size, .slice A n c] 24) := ⟨_, rfl⟩
  have HB := Lib.hid (show Blk w1 w.heap.size 24 #[.int .i64 lots, .int .i64 size, .slice A n c] from hw1 ▸ Blk.new _ _ _)
  have E1 := Lib.hid (show Ext w w1 from hw1 ▸ Ext.al _ _)
  go_wp2
  rw [← hw1]
  clear hw1
  go_loopg [8] n (fun gg s8 wr => ∃ i : Nat, i ≤ n ∧ n - i ≤ gg ∧ s8 = .int .i64 (i : Int) ∧ Aside (SpI L A n base top wr) ∧ Aside (Blk wr w.heap.size 24 #[.int .i64 lots, .int .i64 size, .slice A n c]) ∧ Aside (Gap base top w wr))
  case atStart => exact ⟨0, by omega, by omega, rfl, HI.out.ext E1.out, HB.out, Gap.of_ext E1.out⟩
  case round =>
    obtain ⟨i, hi, hgg, rfl, SI, BX, BW⟩ := hrel
    obtain ⟨x0, x1, x2, xf, xl⟩ := BX.out.c3
    by_cases hin : i < n
    · have hiz : (i : Int) < (n : Int) := by omega
      have hwk : IntKind.i64.wrap ((i : Int) + 1) = (i : Int) + 1 := by rw [IntKind.wrap_i64]; omega
      obtain ⟨r, hr⟩ : ∃ r, L[i]? = some r := ⟨_, List.getElem?_eq_getElem (by have := HN.out; omega)⟩
      have HR := Lib.hid hr
      rcases SI.out.row with h0 | ⟨g, cur, rfl, hg1, hg2, hB, hcs, hcur⟩
      · omega
      have HG1 := Lib.hid hg1; have HG2 := Lib.hid hg2
      have HRM := Lib.hid (List.mem_of_getElem? hr)
      have c4 : wr.cell? ⟨g, i * 8 + 4, none⟩ = some (.slice r.da r.dn r.dc) := by rw [hB.cell]; exact (hcur i r hr).1
      clear hcur hcs hB hg1 hg2 hr
      go_wp2
      clear x0 x1 x2 xf xl c4
      go_loopg [19] r.dn (fun gg s19 wr => ∃ j : Nat, j ≤ r.dn ∧ r.dn - j ≤ gg ∧ s19 = .int .i64 (j : Int) ∧ Aside (SpI L (some ⟨g, 0, none⟩) n base top wr) ∧ Aside (Blk wr w.heap.size 24 #[.int .i64 lots, .int .i64 size, .slice (some ⟨g, 0, none⟩) n c]) ∧ Aside (Gap base top w wr))
      case atStart => exact ⟨0, by omega, by omega, rfl, SI.out, BX.out, BW.out⟩
      case round =>
        clear SI BX BW
        obtain ⟨j, hj, hgg, rfl, SI, BX, BW⟩ := hrel
        obtain ⟨x0, x1, x2, xf, xl⟩ := BX.out.c3
        rcases SI.out.row with h0 | ⟨g', cur, hg', -, -, hB, hcs, hcur⟩
        · omega
        obtain rfl : g = g' := by simpa using hg'
        by_cases hjn : j < r.dn
        · have hjz : (j : Int) < (r.dn : Int) := by omega
          rcases SI.out.ds r HRM.out with h0 | ⟨gd, cd, hda, hd1, hd2, hBD, hdc, hdm⟩
          · omega
          have c4 : wr.cell? ⟨g, i * 8 + 4, none⟩ = some (.slice (some ⟨gd, 0, none⟩) r.dn r.dc) := by rw [hB.cell, ← hda]; exact (hcur i r HR.out).1
          have hwj : IntKind.i64.wrap ((j : Int) + 1) = (j : Int) + 1 := by rw [IntKind.wrap_i64]; omega
          obtain ⟨u, hu⟩ : ∃ u, wr.cell? ⟨gd, j * 4 + 1, none⟩ = some u := ⟨_, by rw [hBD.cell]; exact Array.getElem?_eq_getElem (by omega)⟩
          have hfz := hBD.frozen (j * 4 + 1)
          have HBD := Lib.hid hBD; have HD1 := Lib.hid hd1; have HD2 := Lib.hid hd2
          clear hcur hcs hB hBD hd1 hd2 hda hg' hdc
          go_wp2
          go_roundg (r.dn - (j + 1))
          case measure => omega
          case rel => exact ⟨j + 1, by omega, by omega, by simp, SI.out.off HBD.out (by decide) _ _, BX.out.far (by dsimp only; have := HT.out; have := HD2.out; omega) _, BW.out.setCell HD1.out HD2.out _⟩
        · have c5 : wr.cell? ⟨g, i * 8 + 5, none⟩ = some (.slice r.wa r.wn r.wc) := by rw [hB.cell]; exact (hcur i r HR.out).2
          clear hcur hcs hB hg'
          go_wp2
          clear x0 x1 x2 xf xl c5
          go_loopg [41] r.wn (fun gg s41 wr => ∃ j : Nat, j ≤ r.wn ∧ r.wn - j ≤ gg ∧ s41 = .int .i64 (j : Int) ∧ Aside (SpI L (some ⟨g, 0, none⟩) n base top wr) ∧ Aside (Blk wr w.heap.size 24 #[.int .i64 lots, .int .i64 size, .slice (some ⟨g, 0, none⟩) n c]) ∧ Aside (Gap base top w wr))
          case atStart => exact ⟨0, by omega, by omega, rfl, SI.out, BX.out, BW.out⟩
          case round =>
            clear SI BX BW
            obtain ⟨j2, hj2, hgg2, rfl, SI, BX, BW⟩ := hrel
            obtain ⟨x0, x1, x2, xf, xl⟩ := BX.out.c3
            rcases SI.out.row with h0 | ⟨g', cur, hg', -, -, hB, hcs, hcur⟩
            · omega
            obtain rfl : g = g' := by simpa using hg'
            by_cases hjn2 : j2 < r.wn
            · have hjz : (j2 : Int) < (r.wn : Int) := by omega
              rcases SI.out.ws r HRM.out with h0 | ⟨gd, cd, hda, hd1, hd2, hBD, hdc, hdm⟩
              · omega
              have c5 : wr.cell? ⟨g, i * 8 + 5, none⟩ = some (.slice (some ⟨gd, 0, none⟩) r.wn r.wc) := by rw [hB.cell, ← hda]; exact (hcur i r HR.out).2
              have hwj : IntKind.i64.wrap ((j2 : Int) + 1) = (j2 : Int) + 1 := by rw [IntKind.wrap_i64]; omega
              obtain ⟨u, hu⟩ : ∃ u, wr.cell? ⟨gd, j2 * 4 + 1, none⟩ = some u := ⟨_, by rw [hBD.cell]; exact Array.getElem?_eq_getElem (by omega)⟩
              have hfz := hBD.frozen (j2 * 4 + 1)
              have HBD := Lib.hid hBD; have HD1 := Lib.hid hd1; have HD2 := Lib.hid hd2
              clear hcur hcs hB hBD hd1 hd2 hda hg' hdc
              go_wp2
              go_roundg (r.wn - (j2 + 1))
              case measure => omega
              case rel => exact ⟨j2 + 1, by omega, by omega, by simp, SI.out.off HBD.out (by decide) _ _, BX.out.far (by dsimp only; have := HT.out; have := HD2.out; omega) _, BW.out.setCell HD1.out HD2.out _⟩
            · obtain ⟨u, hu⟩ : ∃ u, wr.cell? ⟨g, i * 8 + 6, none⟩ = some u := ⟨_, by rw [hB.cell]; exact Array.getElem?_eq_getElem (by omega)⟩
              have hfz := hB.frozen (i * 8 + 6)
              clear hcur hcs hB hg'
              go_wp2
              go_roundg (n - (i + 1))
              case measure => omega
              case rel => exact ⟨i + 1, by omega, by omega, by simp, SI.out.six _, BX.out.far (by dsimp only; have := HT.out; have := HG2.out; omega) _, BW.out.setCell HG1.out HG2.out _⟩
    · go_wp2
      refine bodyPost_end (results_none rfl _ _ _) rfl ?_
      exact ⟨⟨_, rfl⟩, BW.out⟩
end Go.Proofs.YtkpengeaolcjhaaDoor
/- slices.SortStableFunc at cottons, of fewer than twenty: insertion sort by their bales' numbers. (Printed by gensortc.py.) -/
namespace Go.Proofs.YtkpengeaolcjhaaDoor
open Go.RowKit Go.Shelf Go.Lib
set_option maxRecDepth 100000
set_option linter.unusedSimpArgs false

theorem flat_set8 {x : Rc} : ∀ (l : List Rc) (i : Nat), i < l.length →
    ((((((((l.flatMap encC).set (i * 8) (.int .i64 x.c.b.id)).set (i * 8 + 1) (.int .i64 x.c.b.layers)).set (i * 8 + 2) (.int .i64 x.c.b.dry.lo)).set (i * 8 + 3) (.int .i64 x.c.b.dry.hi)).set (i * 8 + 4) (.slice x.da x.dn x.dc)).set (i * 8 + 5) (.slice x.wa x.wn x.wc)).set (i * 8 + 6) (.int .i64 x.c.len)).set (i * 8 + 7) (.int .i64 x.c.str) = (l.set i x).flatMap encC
  | y :: l, 0, _ => rfl
  | y :: l, i + 1, h => by
    have ih := flat_set8 (x := x) l i (by simpa using h)
    rw [List.set_cons_succ, List.flatMap_cons, List.flatMap_cons, ← ih]
    have e : ∀ j, (i + 1) * 8 + j = (encC y).length + (i * 8 + j) := fun j => by rw [encC_len]; omega
    have e0 : (i + 1) * 8 = (encC y).length + i * 8 := by rw [encC_len]; omega
    rw [e 1, e 2, e 3, e 4, e 5, e 6, e 7, e0]
    simp only [List.set_append_right _ _ (Nat.le_add_right _ _), Nat.add_sub_cancel_left]
theorem own_put8 {w : World} {base g n cap i : Nat} {m : List Rc} {x : Rc} (h : Own encC 61 8 w base (.slice (some ⟨g, 0, none⟩) n cap) m) (hn : n = m.length) (hi : i < n) :
    Own encC 61 8 ((((((((w.setCell ⟨g, i * 8, none⟩ (.int .i64 x.c.b.id)).setCell ⟨g, i * 8 + 1, none⟩ (.int .i64 x.c.b.layers)).setCell ⟨g, i * 8 + 2, none⟩ (.int .i64 x.c.b.dry.lo)).setCell ⟨g, i * 8 + 3, none⟩ (.int .i64 x.c.b.dry.hi)).setCell ⟨g, i * 8 + 4, none⟩ (.slice x.da x.dn x.dc)).setCell ⟨g, i * 8 + 5, none⟩ (.slice x.wa x.wn x.wc)).setCell ⟨g, i * 8 + 6, none⟩ (.int .i64 x.c.len)).setCell ⟨g, i * 8 + 7, none⟩ (.int .i64 x.c.str)) base (.slice (some ⟨g, 0, none⟩) n cap) (m.set i x) := by
  unfold Own at *
  rw [List.length_set, ← hn, ← flat_set8 m i (by omega)]
  rw [← hn] at h
  exact own_cellset (own_cellset (own_cellset (own_cellset (own_cellset (own_cellset (own_cellset (own_cellset h)))))))
theorem grown8 {a W : World} {g : Nat} (h : a.grownBy W (some g)) {i0 i1 i2 i3 i4 i5 i6 i7 : Nat} {y0 y1 y2 y3 y4 y5 y6 y7 : Value} : a.grownBy ((((((((W.setCell ⟨g, i0, none⟩ y0).setCell ⟨g, i1, none⟩ y1).setCell ⟨g, i2, none⟩ y2).setCell ⟨g, i3, none⟩ y3).setCell ⟨g, i4, none⟩ y4).setCell ⟨g, i5, none⟩ y5).setCell ⟨g, i6, none⟩ y6).setCell ⟨g, i7, none⟩ y7) (some g) :=
  grown_set (grown_set (grown_set (grown_set (grown_set (grown_set (grown_set (grown_set h (p := ⟨g, i0, none⟩) (.inl rfl) y0) (p := ⟨g, i1, none⟩) (.inl rfl) y1) (p := ⟨g, i2, none⟩) (.inl rfl) y2) (p := ⟨g, i3, none⟩) (.inl rfl) y3) (p := ⟨g, i4, none⟩) (.inl rfl) y4) (p := ⟨g, i5, none⟩) (.inl rfl) y5) (p := ⟨g, i6, none⟩) (.inl rfl) y6) (p := ⟨g, i7, none⟩) (.inl rfl) y7
theorem own_atC {W : World} {base g n c k : Nat} {m : List Rc} {y : Rc} (h : Own encC 61 8 W base (.slice (some ⟨g, 0, none⟩) n c) m) (hy : m[k]? = some y) :
    W.cell? ⟨g, k * 8, none⟩ = some (.int .i64 y.c.b.id) ∧ W.cell? ⟨g, k * 8 + 1, none⟩ = some (.int .i64 y.c.b.layers) ∧ W.cell? ⟨g, k * 8 + 2, none⟩ = some (.int .i64 y.c.b.dry.lo) ∧ W.cell? ⟨g, k * 8 + 3, none⟩ = some (.int .i64 y.c.b.dry.hi) ∧ W.cell? ⟨g, k * 8 + 4, none⟩ = some (.slice y.da y.dn y.dc) ∧ W.cell? ⟨g, k * 8 + 5, none⟩ = some (.slice y.wa y.wn y.wc) ∧ W.cell? ⟨g, k * 8 + 6, none⟩ = some (.int .i64 y.c.len) ∧ W.cell? ⟨g, k * 8 + 7, none⟩ = some (.int .i64 y.c.str) ∧ g < W.heap.size := by
  have hsl : SlC W (.slice (some ⟨g, 0, none⟩) n c) m := Own.sl (enc := encC) encC_len h
  have hk : k < n := by
    have h1 := (List.getElem?_eq_some_iff.1 hy).1
    obtain ⟨_, _, e, _⟩ := hsl
    injection e with _ e _
    omega
  obtain ⟨bb, off, y', e1, hy', hb, hc⟩ := hsl.at_ hk
  obtain ⟨rfl, rfl⟩ : g = bb ∧ 0 = off := by simpa using e1
  rw [hy] at hy'
  injection hy' with hy'
  subst hy'
  obtain ⟨c0, c1, c2, c3, c4, c5, c6, c7⟩ := SlC.cells hc (Ext.refl _)
  simp only [Nat.zero_add] at c0 c1 c2 c3 c4 c5 c6 c7
  exact ⟨c0, c1, c2, c3, c4, c5, c6, c7, hb⟩
theorem cmpC_any (x y : Rc) (w : World) : Calls Tryd.prog 75 #[valC x, valC y] w fun e w' => e = .returned (.int .i64 (cmpI x.c.b.id y.c.b.id)) ∧ Ext w w' := by
  go_enter Tryd.func75, Tryd.ntmps75
  go_wp2_with fail
  refine (compare_any x.c.b.id y.c.b.id _).mono ?_
  rintro e w1 ⟨rfl, hE1⟩
  have HE1 := Lib.hid ((((Ext.al _ _).alloc _ : Ext w _)).trans hE1); clear hE1
  go_wp2
  go_ret
  exact ⟨rfl, HE1.out⟩

/-- Where a cotton comes to stand. -/
def stopC (S : List Rc) (x : Rc) : Nat → Nat
  | 0 => 0
  | j + 1 => match S[j]? with
    | some y => if x.c.b.id < y.c.b.id then stopC S x j else j + 1
    | none => j + 1
def putC (S : List Rc) (x : Rc) (j : Nat) : List Rc := S.take j ++ x :: S.drop j
def sortC (l : List Rc) : Nat → List Rc
  | 0 => []
  | k + 1 => match l[k]? with
    | some x => putC (sortC l k) x (stopC (sortC l k) x k)
    | none => sortC l k
theorem stopC_le (S : List Rc) (x : Rc) : ∀ j, stopC S x j ≤ j
  | 0 => Nat.le_refl _
  | j + 1 => by
    unfold stopC
    split
    · split
      · exact Nat.le_succ_of_le (stopC_le S x j)
      · exact Nat.le_refl _
    · exact Nat.le_refl _
theorem putC_len (S : List Rc) (x : Rc) {j : Nat} (hj : j ≤ S.length) : (putC S x j).length = S.length + 1 := by unfold putC; simp; omega
theorem sortC_len (l : List Rc) : ∀ k, k ≤ l.length → (sortC l k).length = k
  | 0, _ => rfl
  | k + 1, h => by
    have ih := sortC_len l k (by omega)
    unfold sortC
    rw [List.getElem?_eq_getElem (show k < l.length by omega)]
    simp only
    rw [putC_len _ _ (by rw [ih]; exact stopC_le _ _ _), ih]
theorem putC_at (S T : List Rc) (x : Rc) {j : Nat} (hj : j ≤ S.length) : (putC S x j ++ T)[j]? = some x := by
  unfold putC
  rw [List.append_assoc, List.getElem?_append_right (by simp; omega)]
  simp [List.length_take, Nat.min_eq_left hj]
theorem putC_before (S T : List Rc) (x : Rc) {j : Nat} (hj : j < S.length) : (putC S x (j + 1) ++ T)[j]? = S[j]? := by
  unfold putC
  rw [List.append_assoc, List.getElem?_append_left (by simp; omega), List.getElem?_take, if_pos (by omega)]
theorem putC_swap (S T : List Rc) (x y : Rc) {j : Nat} (hy : S[j]? = some y) : ((putC S x (j + 1) ++ T).set (j + 1) y).set j x = putC S x j ++ T := by
  have hj : j < S.length := (List.getElem?_eq_some_iff.1 hy).1
  have h1 : S.take (j + 1) = S.take j ++ [y] := by rw [List.take_add_one, hy]; rfl
  have h2 : S.drop j = y :: S.drop (j + 1) := drop_at hy
  unfold putC
  rw [h1, h2]
  have hl : (S.take j).length = j := by simp; omega
  rw [show List.take j S ++ [y] ++ x :: List.drop (j + 1) S ++ T = List.take j S ++ (y :: x :: (List.drop (j + 1) S ++ T)) by simp]
  rw [List.set_append_right (j + 1) y (by omega), List.set_append_right j x (by omega), hl]
  rw [show j + 1 - j = 1 by omega, Nat.sub_self]
  simp
theorem putC_end (S T : List Rc) (x : Rc) : putC S x S.length ++ T = S ++ (x :: T) := by unfold putC; simp

set_option maxHeartbeats 2000000 in
theorem f135_any (l : List Rc) (g n c base : Nat) (w : World) (hn : n = l.length) (hn0 : 0 < n) (hn20 : n ≤ 20) (ho : Own encC 61 8 w base (.slice (some ⟨g, 0, none⟩) n c) l) :
    Calls Tryd.prog 135 #[.slice (some ⟨g, 0, none⟩) n c, .int .i64 0, .int .i64 (n : Int), .func (.func 75) #[] #[]] w fun e w' => (∃ v, e = .returned v) ∧ Own encC 61 8 w' base (.slice (some ⟨g, 0, none⟩) n c) (sortC l n) ∧ w.grownBy w' (some g) := by
  have HO := Lib.hid ho
  have HN := Lib.hid hn
  have eg : ∀ args w, (callFunc 75 args).run Tryd.prog w = .ok (.enter 75 args) w := enters_of Tryd.func75 (by kernel_rfl) rfl
  clear ho hn
  go_enter Tryd.func135, Tryd.ntmps135
  go_wp2
  go_loopg [8, 9] n (fun gg s8 _ wr => ∃ i : Nat, 1 ≤ i ∧ i ≤ n ∧ n - i ≤ gg ∧ s8 = .int .i64 (i : Int) ∧ Aside (Own encC 61 8 wr base (.slice (some ⟨g, 0, none⟩) n c) (sortC l i ++ l.drop i)) ∧ Aside (w.grownBy wr (some g)))
  case atStart => exact ⟨1, by omega, by omega, by omega, rfl, by
    have h0 : 0 < l.length := by have := HN.out; omega
    have : sortC l 1 ++ l.drop 1 = l := by
      match l, h0 with
      | x :: r, _ => simp [sortC, stopC, putC]
    rw [this]; exact HO.out, World.grownBy.refl _ _⟩
  case round =>
    obtain ⟨i, hi1, hin, hgg, rfl, OW, GW⟩ := hrel
    by_cases hiN : i < n
    · have hiz : (i : Int) < (n : Int) := by omega
      obtain ⟨x, hx⟩ : ∃ x, l[i]? = some x := ⟨_, List.getElem?_eq_getElem (by have := HN.out; omega)⟩
      have HX := Lib.hid hx
      have HSL := Lib.hid (sortC_len l i (by have := HN.out; omega))
      have HSS := Lib.hid (show sortC l (i + 1) = putC (sortC l i) x (stopC (sortC l i) x i) by rw [sortC, hx])
      have HDR := Lib.hid (show sortC l i ++ l.drop i = putC (sortC l i) x i ++ l.drop (i + 1) by
        rw [drop_at hx]
        have := putC_end (sortC l i) (l.drop (i + 1)) x
        rw [HSL.out] at this
        exact this.symm)
      rw [HDR.out] at OW
      clear hx
      generalize sortC l i = S at *
      generalize hTT : l.drop (i + 1) = T at *
      have HTT := Lib.hid hTT; clear hTT
      obtain ⟨wo, hwo⟩ : ∃ wo : World, wo = wr := ⟨_, rfl⟩
      subst hwo
      go_wp2_with fail
      go_loopg [9] i (fun gg s9 wr => ∃ j : Nat, j ≤ i ∧ j ≤ gg ∧ s9 = .int .i64 (j : Int) ∧ Aside (Own encC 61 8 wr base (.slice (some ⟨g, 0, none⟩) n c) (putC S x j ++ T)) ∧ Aside (stopC S x i = stopC S x j) ∧ Aside (w.grownBy wr (some g)))
      case atStart => exact ⟨i, by omega, by omega, rfl, OW.out, rfl, GW.out⟩
      case round =>
        obtain ⟨j, hji, hgj, rfl, OJ, ST, GJ⟩ := hrel
        by_cases hj0 : j = 0
        · subst hj0
          have HFI := Lib.hid (show Own encC 61 8 wr base (.slice (some ⟨g, 0, none⟩) n c) (sortC l (i + 1) ++ T) by rw [HSS.out, ST.out]; exact OJ.out)
          go_wp2_with fail
          refine wp_region_tame (fun W => Ext wr W) (fun W W' => Ext W W') (by kernel_rfl) 53 rfl (by decide +kernel) (Ext.refl _).drew ?_
          repeat (apply tame_q rfl; (intro ρ W hC hr hD; (obtain ⟨hrc, hrg, hrf, hrs⟩ := hr); (simp [go_sem] at hD); go_simp; first | exact ⟨⟨hC, Ext.refl _⟩, rfl⟩ | exact ⟨⟨hC, RS.refl _⟩, rfl⟩ | exact rfl); simp only [List.nil_append, List.cons_append])
          refine tame_end 53 rfl rfl (fun ρ W hC hr hF => ?_)
          obtain ⟨hrc, hrg, hrf, hrs⟩ := hr
          simp [go_sem] at hF
          apply frame_to
          · go_simp
            exact rfl
          have HFI := Lib.hid (HFI.out.ext hC)
          have GJ2 := Lib.hid (grown_ext GJ.out hC)
          clear hF hrs hrc hrg hrf hC
          go_wp2
          go_roundg (n - (i + 1))
          case measure => omega
          case rel => exact ⟨i + 1, by omega, by omega, by omega, by simp, by rw [HTT.out]; exact HFI.out, GJ2.out⟩
        · obtain ⟨k, hk⟩ : ∃ k, j = k + 1 := ⟨j - 1, by omega⟩
          have HK := Lib.hid hk
          have hkn : k < n := by omega
          have hjn : j < n := by omega
          have hjS : j ≤ S.length := by have := HSL.out; omega
          obtain ⟨y, hy⟩ : ∃ y, S[k]? = some y := ⟨_, List.getElem?_eq_getElem (by omega)⟩
          have HY := Lib.hid hy
          have hsl : SlC wr (.slice (some ⟨g, 0, none⟩) n c) (putC S x j ++ T) := OJ.out.sl (fun _ => rfl)
          obtain ⟨bb, off, x', e1, hx', -, hxc⟩ := hsl.at_ hjn
          injection e1 with e1
          injection e1 with e1 e2 _
          subst e1 e2
          obtain rfl : x' = x := by rw [putC_at S T x hjS] at hx'; injection hx' with h; exact h.symm
          obtain ⟨bb, off, y', e1, hy', -, hyc⟩ := hsl.at_ hkn
          injection e1 with e1
          injection e1 with e1 e2 _
          subst e1 e2
          obtain rfl : y' = y := by rw [hk, putC_before S T x' (by omega), hy] at hy'; injection hy' with h; exact h.symm
          have cx := fun W (h : Ext wr W) => SlC.cells hxc h
          have cy := fun W (h : Ext wr W) => SlC.cells hyc h
          simp only [Nat.zero_add] at cx cy
          have x0 := fun W (h : Ext wr W) => (cx W h).1
          have x1 := fun W (h : Ext wr W) => (cx W h).2.1
          have x2 := fun W (h : Ext wr W) => (cx W h).2.2.1
          have x3 := fun W (h : Ext wr W) => (cx W h).2.2.2.1
          have x4 := fun W (h : Ext wr W) => (cx W h).2.2.2.2.1
          have x5 := fun W (h : Ext wr W) => (cx W h).2.2.2.2.2.1
          have x6 := fun W (h : Ext wr W) => (cx W h).2.2.2.2.2.2.1
          have x7 := fun W (h : Ext wr W) => (cx W h).2.2.2.2.2.2.2
          have y0 := fun W (h : Ext wr W) => (cy W h).1
          have y1 := fun W (h : Ext wr W) => (cy W h).2.1
          have y2 := fun W (h : Ext wr W) => (cy W h).2.2.1
          have y3 := fun W (h : Ext wr W) => (cy W h).2.2.2.1
          have y4 := fun W (h : Ext wr W) => (cy W h).2.2.2.2.1
          have y5 := fun W (h : Ext wr W) => (cy W h).2.2.2.2.2.1
          have y6 := fun W (h : Ext wr W) => (cy W h).2.2.2.2.2.2.1
          have y7 := fun W (h : Ext wr W) => (cy W h).2.2.2.2.2.2.2
          have hjz : (0 : Int) < (j : Int) := by omega
          have hjp : 0 < j := by omega
          have hjz2 : (j : Int) < (n : Int) := by omega
          have hjs : (j : Int) - 1 = (k : Int) := by omega
          have hkz2 : (k : Int) < (n : Int) := by omega
          clear hk hx' hy' hsl hy cx cy hxc hyc
          have hwk := wrap_nat (k := k) (by omega)
          have hmj : (putC S x' j ++ T)[j]? = some x' := putC_at S T x' hjS
          have hmk : (putC S x' j ++ T)[k]? = some y' := by rw [HK.out, putC_before S T x' (by have := HK.out; omega)]; exact HY.out
          have hml : (putC S x' j ++ T).length = n := by have := OJ.out.sl (fun _ => rfl) (enc := encC); obtain ⟨_, _, e, _⟩ := this; injection e with _ e _; exact e.symm
          by_cases hxy : x'.c.b.id < y'.c.b.id
          · have hcv : cmpI x'.c.b.id y'.c.b.id = -1 := by unfold cmpI; rw [if_pos hxy]
            have HST := Lib.hid (show stopC S x' i = stopC S x' k by rw [ST.out, HK.out, stopC, HY.out]; simp only; rw [if_pos hxy])
            have HSW := Lib.hid (show ((putC S x' j ++ T).set j y').set k x' = putC S x' k ++ T by rw [HK.out]; exact putC_swap S T x' y' HY.out)
            go_wp2_with fail
            refine wp_region_tame (fun W => Ext wr W) (fun W W' => Ext W W') (by kernel_rfl) 53 rfl (by decide +kernel) (Ext.refl _).drew ?_
            repeat (apply tame_q rfl; (intro ρ W hC hr hD; (obtain ⟨hrc, hrg, hrf, hrs⟩ := hr); (simp [go_sem] at hD); go_simp; first | exact ⟨⟨hC, Ext.refl _⟩, rfl⟩ | exact ⟨⟨hC, RS.refl _⟩, rfl⟩ | exact rfl); simp only [List.nil_append, List.cons_append])
            apply tame_q rfl
            · intro ρ W hC hr hD
              obtain ⟨hrc, hrg, hrf, hrs⟩ := hr
              simp [go_sem] at hD
              go_simp
              refine (cmpC_any x' y' W).mono ?_
              rintro e w' ⟨rfl, hE⟩
              rw [hcv]
              exact ⟨_, rfl, ⟨hC.trans hE, hE⟩, rfl⟩
            simp only [List.nil_append, List.cons_append]
            repeat (apply tame_q rfl; (intro ρ W hC hr hD; (obtain ⟨hrc, hrg, hrf, hrs⟩ := hr); (simp [go_sem] at hD); go_simp; first | exact ⟨⟨hC, Ext.refl _⟩, rfl⟩ | exact ⟨⟨hC, RS.refl _⟩, rfl⟩ | exact rfl); simp only [List.nil_append, List.cons_append])
            refine tame_end 53 rfl rfl (fun ρ W hC hr hF => ?_)
            obtain ⟨hrc, hrg, hrf, hrs⟩ := hr
            simp [go_sem] at hF
            apply frame_to
            · go_simp
              exact rfl
            have OJ2 := Lib.hid (OJ.out.ext hC)
            have GJ2 := Lib.hid (grown_ext GJ.out hC)
            clear hF hrs hrc hrg hrf x0 x1 x2 x3 x4 x5 x6 x7 y0 y1 y2 y3 y4 y5 y6 y7 hC hcv
            generalize hm0 : putC S x' j ++ T = m0 at *
            go_wp2_with fail
            refine wp_region_tameN_cut (fun W' => W.grownBy W' (some g) ∧ ∃ m, Own encC 61 8 W' base (.slice (some ⟨g, 0, none⟩) n c) m ∧ m.length = n) (fun A B => Own encC 61 8 A base (.slice (some ⟨g, 0, none⟩) n c) (m0.set j y') → Own encC 61 8 B base (.slice (some ⟨g, 0, none⟩) n c) (m0.set j y')) (fun W' => Own encC 61 8 W' base (.slice (some ⟨g, 0, none⟩) n c) m0) 15 (by kernel_rfl) 53 rfl _ rfl (by decide +kernel) (by decide +kernel) (by decide +kernel) rfl ⟨⟨rfl, rfl, rfl, Nat.le_refl _, fun _ _ _ => rfl⟩, m0, OJ2.out, hml⟩ OJ2.out ?_
            simp only [List.dropLast]
            repeat (apply tameN_q rfl; (intro ρ W hC hN hr hD; (obtain ⟨hrc, hrg, hrf, hrs⟩ := hr); (simp [go_sem] at hD); go_simp; first | exact ⟨⟨hC, fun h => h, fun _ h => h⟩, rfl⟩ | exact ⟨hC, fun h => h, fun _ h => h⟩ | exact ⟨⟨hC, ⟨fun h => h, fun h => h⟩, fun _ h => h⟩, rfl⟩ | exact ⟨hC, ⟨fun h => h, fun h => h⟩, fun _ h => h⟩ | exact rfl); simp only [List.nil_append, List.cons_append])
            apply tameN_q rfl
            · intro ρ W' hC hN hr hD
              obtain ⟨hrc, hrg, hrf, hrs⟩ := hr
              simp [go_sem] at hD
              obtain ⟨b0, b1, b2, b3, b4, b5, b6, b7, bl⟩ := own_atC (hN rfl) hmk
              go_simp
              first | exact ⟨⟨hC, fun h => h, fun _ h => h⟩, rfl⟩ | exact ⟨hC, fun h => h, fun _ h => h⟩
            simp only [List.nil_append, List.cons_append]
            repeat (apply tameN_q rfl; (intro ρ W hC hN hr hD; (obtain ⟨hrc, hrg, hrf, hrs⟩ := hr); (simp [go_sem] at hD); go_simp; first | exact ⟨⟨hC, fun h => h, fun _ h => h⟩, rfl⟩ | exact ⟨hC, fun h => h, fun _ h => h⟩ | exact ⟨⟨hC, ⟨fun h => h, fun h => h⟩, fun _ h => h⟩, rfl⟩ | exact ⟨hC, ⟨fun h => h, fun h => h⟩, fun _ h => h⟩ | exact rfl); simp only [List.nil_append, List.cons_append])
            apply tameN_q rfl
            · intro ρ W' hC hN hr hD
              obtain ⟨hrc, hrg, hrf, hrs⟩ := hr
              simp [go_sem] at hD
              obtain ⟨b0, b1, b2, b3, b4, b5, b6, b7, bl⟩ := own_atC (hN rfl) hmj
              go_simp
              first | exact ⟨⟨hC, fun h => h, fun _ h => h⟩, rfl⟩ | exact ⟨hC, fun h => h, fun _ h => h⟩
            simp only [List.nil_append, List.cons_append]
            repeat (apply tameN_q rfl; (intro ρ W hC hN hr hD; (obtain ⟨hrc, hrg, hrf, hrs⟩ := hr); (simp [go_sem] at hD); go_simp; first | exact ⟨⟨hC, fun h => h, fun _ h => h⟩, rfl⟩ | exact ⟨hC, fun h => h, fun _ h => h⟩ | exact ⟨⟨hC, ⟨fun h => h, fun h => h⟩, fun _ h => h⟩, rfl⟩ | exact ⟨hC, ⟨fun h => h, fun h => h⟩, fun _ h => h⟩ | exact rfl); simp only [List.nil_append, List.cons_append])
            apply tameN_n (fun _ W' => Own encC 61 8 W' base (.slice (some ⟨g, 0, none⟩) n c) (m0.set j y')) (fun _ A B _ hR h => hR h)
            · intro ρ W' hC hN hr hD
              obtain ⟨hrc, hrg, hrf, hrs⟩ := hr
              simp [go_sem] at hD
              have h0 := hN rfl
              obtain ⟨a0, a1, a2, a3, a4, a5, a6, a7, al⟩ := own_atC h0 hmj
              have df : ∀ k, W'.frozen? ⟨g, k, none⟩ = false := fun k => own_frozen h0 k
              have h4 := own_put8 (x := y') h0 hml.symm (show j < n from hjn)
              have H4 := Lib.hid h4; have HC := Lib.hid hC.1
              clear h4 h0 hN hC
              go_simp
              exact ⟨⟨⟨grown8 HC.out, _, H4.out, by rw [List.length_set]; exact hml⟩, fun _ => H4.out, fun h => by cases h⟩, H4.out⟩
            simp only [List.nil_append, List.cons_append]
            repeat (apply tameN_q rfl; (intro ρ W hC hN hr hD; (obtain ⟨hrc, hrg, hrf, hrs⟩ := hr); (simp [go_sem] at hD); go_simp; first | exact ⟨⟨hC, fun h => h, fun _ h => h⟩, rfl⟩ | exact ⟨hC, fun h => h, fun _ h => h⟩ | exact ⟨⟨hC, ⟨fun h => h, fun h => h⟩, fun _ h => h⟩, rfl⟩ | exact ⟨hC, ⟨fun h => h, fun h => h⟩, fun _ h => h⟩ | exact rfl); simp only [List.nil_append, List.cons_append])
            refine tameN_end 53 rfl rfl (fun ρ W' hC hr hF => ?_)
            obtain ⟨hrc, hrg, hrf, hrs⟩ := hr
            simp [go_sem] at hF
            obtain ⟨f37, f38, f39, f40, f41, f42, f43, f44, f45, f46, f47, f48, f49, f50, f51, fS, f52⟩ := hF
            apply frame_to
            · go_simp
              exact rfl
            have OJ4 := Lib.hid fS
            have GJ3 := Lib.hid (grown_tr GJ2.out hC.1)
            clear f37 f38 f39 f40 f41 f42 f43 f44 f45 f46 f47 f48 f49 f50 f51 fS f52 hrs hrc hrg hrf hC
            have hne : ¬ j = k := by have := HK.out; omega
            obtain ⟨b0, b1, b2, b3, b4, b5, b6, b7, bl⟩ := own_atC OJ4.out (show (m0.set j y')[k]? = some y' by rw [List.getElem?_set, if_neg hne]; exact hmk)
            have df : ∀ k, W'.frozen? ⟨g, k, none⟩ = false := fun k => own_frozen OJ4.out k
            have OJ5 := Lib.hid (own_put8 (x := x') OJ4.out (by rw [List.length_set]; exact hml.symm) (show k < n from hkn))
            rw [HSW.out] at OJ5
            clear hmj hmk
            go_wp2
            go_roundg k
            case measure => have := HK.out; omega
            case rel => exact ⟨k, by have := HK.out; omega, by omega, rfl, OJ5.out, HST.out, grown8 GJ3.out⟩
          · have hcn : ¬ cmpI x'.c.b.id y'.c.b.id < 0 := by unfold cmpI; rw [if_neg hxy]; split <;> omega
            have hcd : decide (cmpI x'.c.b.id y'.c.b.id < 0) = false := decide_eq_false hcn
            have HFI := Lib.hid (show Own encC 61 8 wr base (.slice (some ⟨g, 0, none⟩) n c) (sortC l (i + 1) ++ T) by
              rw [HSS.out, ST.out, show stopC S x' j = j by rw [HK.out, stopC, HY.out]; simp only; rw [if_neg hxy]]
              exact OJ.out)
            go_wp2_with fail
            refine wp_region_tame (fun W => Ext wr W) (fun W W' => Ext W W') (by kernel_rfl) 53 rfl (by decide +kernel) (Ext.refl _).drew ?_
            repeat (apply tame_q rfl; (intro ρ W hC hr hD; (obtain ⟨hrc, hrg, hrf, hrs⟩ := hr); (simp [go_sem] at hD); go_simp; first | exact ⟨⟨hC, Ext.refl _⟩, rfl⟩ | exact ⟨⟨hC, RS.refl _⟩, rfl⟩ | exact rfl); simp only [List.nil_append, List.cons_append])
            apply tame_q rfl
            · intro ρ W hC hr hD
              obtain ⟨hrc, hrg, hrf, hrs⟩ := hr
              simp [go_sem] at hD
              go_simp
              refine (cmpC_any x' y' W).mono ?_
              rintro e w' ⟨rfl, hE⟩
              exact ⟨_, rfl, ⟨hC.trans hE, hE⟩, rfl⟩
            simp only [List.nil_append, List.cons_append]
            repeat (apply tame_q rfl; (intro ρ W hC hr hD; (obtain ⟨hrc, hrg, hrf, hrs⟩ := hr); (simp [go_sem] at hD); go_simp; first | exact ⟨⟨hC, Ext.refl _⟩, rfl⟩ | exact ⟨⟨hC, RS.refl _⟩, rfl⟩ | exact rfl); simp only [List.nil_append, List.cons_append])
            refine tame_end 53 rfl rfl (fun ρ W hC hr hF => ?_)
            obtain ⟨hrc, hrg, hrf, hrs⟩ := hr
            simp [go_sem] at hF
            apply frame_to
            · go_simp
              exact rfl
            have HFI := Lib.hid (HFI.out.ext hC)
            have GJ2 := Lib.hid (grown_ext GJ.out hC)
            clear hF hrs hrc hrg hrf x0 x1 x2 x3 x4 x5 x6 x7 y0 y1 y2 y3 y4 y5 y6 y7 hC
            go_wp2
            go_roundg (n - (i + 1))
            case measure => omega
            case rel => exact ⟨i + 1, by omega, by omega, by omega, by simp, by rw [HTT.out]; exact HFI.out, GJ2.out⟩
    · have hie : i = n := by omega
      subst hie
      have HF := Lib.hid (show sortC l i ++ l.drop i = sortC l i by rw [List.drop_eq_nil_of_le (by have := HN.out; omega), List.append_nil])
      go_wp2
      refine bodyPost_end (results_none rfl _ _ _) rfl ?_
      exact ⟨⟨_, rfl⟩, by rw [← HF.out]; exact OW.out, GW.out⟩

theorem f117_any (l : List Rc) (g n c base : Nat) (w : World) (hn : n = l.length) (hn0 : 0 < n) (hn20 : n < 20) (ho : Own encC 61 8 w base (.slice (some ⟨g, 0, none⟩) n c) l) :
    Calls Tryd.prog 117 #[.slice (some ⟨g, 0, none⟩) n c, .int .i64 (n : Int), .func (.func 75) #[] #[]] w fun e w' => (∃ v, e = .returned v) ∧ Own encC 61 8 w' base (.slice (some ⟨g, 0, none⟩) n c) (sortC l n) ∧ w.grownBy w' (some g) := by
  have HI := Lib.hid (f135_any l g n c base w hn hn0 (by omega) ho)
  have h1 : (n : Int) < 20 := by omega
  clear ho hn
  go_enter Tryd.func117, Tryd.ntmps117
  go_wp2
  go_loopg [7, 8] 1 (fun gg s7 s8 wr => gg = 1 ∧ s7 = .int .i64 0 ∧ s8 = .int .i64 20 ∧ wr = w)
  case atStart => exact ⟨rfl, rfl, rfl, rfl⟩
  case round =>
    obtain ⟨rfl, rfl, rfl, rfl⟩ := hrel
    go_wp2_with fail
    refine HI.out.mono ?_
    rintro e w2 ⟨⟨v, rfl⟩, ho, hg⟩
    have HO := Lib.hid ho; have HG := Lib.hid hg
    clear ho hg HI
    go_wp2
    go_loopg [6, 7, 8, 9] 1 (fun gg s6 s7 s8 _ wr => gg = 1 ∧ s6 = .int .i64 20 ∧ s7 = .int .i64 0 ∧ s8 = .int .i64 20 ∧ wr = w2)
    case atStart => exact ⟨rfl, rfl, rfl, rfl, rfl⟩
    case round =>
      obtain ⟨rfl, rfl, rfl, rfl, rfl⟩ := hrel
      go_wp2
      refine bodyPost_end (results_none rfl _ _ _) rfl ?_
      exact ⟨⟨_, rfl⟩, HO.out, HG.out⟩
theorem f74_any (l : List Rc) (g n c base : Nat) (w : World) (hn : n = l.length) (hn0 : 0 < n) (hn20 : n < 20) (ho : Own encC 61 8 w base (.slice (some ⟨g, 0, none⟩) n c) l) :
    Calls Tryd.prog 74 #[.slice (some ⟨g, 0, none⟩) n c, .func (.func 75) #[] #[]] w fun e w' => (∃ v, e = .returned v) ∧ Own encC 61 8 w' base (.slice (some ⟨g, 0, none⟩) n c) (sortC l n) ∧ w.grownBy w' (some g) := by
  have HI := Lib.hid (f117_any l g n c base w hn hn0 hn20 ho)
  clear ho hn
  go_enter Tryd.func74, Tryd.ntmps74
  go_wp2_with fail
  refine HI.out.mono ?_
  rintro e w2 ⟨⟨v, rfl⟩, ho, hg⟩
  have HO := Lib.hid ho; have HG := Lib.hid hg
  clear ho hg HI
  go_wp2
  refine bodyPost_end (results_none rfl _ _ _) rfl ?_
  exact ⟨⟨_, rfl⟩, HO.out, HG.out⟩
end Go.Proofs.YtkpengeaolcjhaaDoor
/- mill.Put. -/
namespace Go.Proofs.YtkpengeaolcjhaaDoor
open Go.RowKit Go.Shelf Go.Lib
set_option maxRecDepth 100000
set_option linter.unusedSimpArgs false

/-! The same sort, of the data alone. -/
def stopK (S : List Cot) (x : Cot) : Nat → Nat
  | 0 => 0
  | j + 1 => match S[j]? with
    | some y => if x.b.id < y.b.id then stopK S x j else j + 1
    | none => j + 1
def putK (S : List Cot) (x : Cot) (j : Nat) : List Cot := S.take j ++ x :: S.drop j
def sortK (l : List Cot) : Nat → List Cot
  | 0 => []
  | k + 1 => match l[k]? with
    | some x => putK (sortK l k) x (stopK (sortK l k) x k)
    | none => sortK l k
theorem stopC_map (S : List Rc) (x : Rc) : ∀ j, stopC S x j = stopK (S.map (·.c)) x.c j
  | 0 => rfl
  | j + 1 => by
    unfold stopC stopK
    rw [List.getElem?_map]
    cases S[j]? with
    | none => rfl
    | some y =>
      simp only [Option.map_some]
      split
      · exact stopC_map S x j
      · rfl
theorem sortC_map (l : List Rc) : ∀ k, (sortC l k).map (·.c) = sortK (l.map (·.c)) k
  | 0 => rfl
  | k + 1 => by
    unfold sortC sortK
    rw [List.getElem?_map]
    cases l[k]? with
    | none => exact sortC_map l k
    | some x =>
      simp only [Option.map_some]
      rw [stopC_map, sortC_map l k]
      unfold putC putK
      rw [List.map_append, List.map_cons, List.map_take, List.map_drop, sortC_map l k]
theorem putC_mem {S : List Rc} {x z : Rc} {j : Nat} (h : z ∈ putC S x j) : z ∈ S ∨ z = x := by
  unfold putC at h
  rcases List.mem_append.1 h with h | h
  · exact .inl (List.mem_of_mem_take h)
  · rcases List.mem_cons.1 h with h | h
    · exact .inr h
    · exact .inl (List.mem_of_mem_drop h)
theorem sortC_mem {l : List Rc} {z : Rc} : ∀ k, z ∈ sortC l k → z ∈ l
  | 0, h => by simp [sortC] at h
  | k + 1, h => by
    unfold sortC at h
    cases hx : l[k]? with
    | none => rw [hx] at h; exact sortC_mem k h
    | some x =>
      rw [hx] at h
      rcases putC_mem h with h | h
      · exact sortC_mem k h
      · rw [h]; exact List.mem_of_getElem? hx
/-- The mill with a bale more. -/
def putM (m : Mll) (x : Cot) : Mll := ⟨m.lots, m.size, sortK (m.cots ++ [x]) (m.cots.length + 1)⟩
def putME (m : Mll) (x : Cot) : Int := if checkM m then (if m.cots.length = 7 then 9 else if checkM (putM m x) then 0 else 93) else 90
/-- What is returned: a mill of the call's own, or none. -/
def MlRet (er : Int) (m : Mll) (base : Nat) (v : Value) (W : World) : Prop := (er = 0 ∧ ∃ v0 L, v = valM m.lots m.size v0 ∧ TwinL base m.cots v0 L W) ∨ (er ≠ 0 ∧ v = valM 0 0 (.slice none 0 0))
theorem MlRet.ext {er : Int} {m : Mll} {base : Nat} {v : Value} {W W' : World} (h : MlRet er m base v W) (e : Ext W W') : MlRet er m base v W' := by
  rcases h with ⟨h1, v0, L, h2, h3⟩ | h
  · exact .inl ⟨h1, v0, L, h2, h3.ext e⟩
  · exact .inr h
theorem TwinL.offX {base : Nat} {cs : List Cot} {v : Value} {L : List Rc} {W W' : World} (h : TwinL base cs v L W) (k : OffX 24 W W') : TwinL base cs v L W' := ⟨h.own.offX k (by decide), fun r hr => ⟨(h.lists r hr).1.offX k (by decide), (h.lists r hr).2.offX k (by decide)⟩, h.map⟩
theorem TwinL.mono {base base' : Nat} {cs : List Cot} {v : Value} {L : List Rc} {W : World} (h : TwinL base cs v L W) (hb : base' ≤ base) : TwinL base' cs v L W := ⟨h.own.mono hb, fun r hr => (h.lists r hr).mono hb, h.map⟩
/-- The box of one cotton. -/
def OneC (x : Rc) (v : Value) (W : World) : Prop := ∃ b, v = .slice (some ⟨b, 0, none⟩) 1 1 ∧ Blk W b 61 (encC x).toArray
theorem sl_app {x : Rc} {w W : World} {A : Option Addr} {n c : Nat} {v : Value} {l : List Rc} {base : Nat} (hs : MlC w (.slice A n c) l) (hd : SlD w (.slice x.da x.dn x.dc) x.c.b.draws) (hw : SlW w (.slice x.wa x.wn x.wc) x.c.b.weighs) (e : Ext w W) (ho : Own encC 61 8 W base v (l ++ [x])) : MlC W v (l ++ [x]) :=
  ⟨Own.sl (enc := encC) encC_len ho, fun r hr => by
    rcases List.mem_append.1 hr with hr | hr
    · exact ⟨(hs.2 r hr).1.ext e, (hs.2 r hr).2.ext e⟩
    · simp at hr
      subst hr
      exact ⟨hd.ext e, hw.ext e⟩⟩
set_option maxHeartbeats 8000000 in
theorem putM_any (lots size : Int) (l : List Rc) (x : Rc) (sv : Value) (w : World) (hT : TabM w) (hs : MlC w sv l) (hd : SlD w (.slice x.da x.dn x.dc) x.c.b.draws) (hw : SlW w (.slice x.wa x.wn x.wc) x.c.b.weighs) (hlen : l.length ≤ 1000) (hxl : x.c.b.draws.length ≤ 1000 ∧ x.c.b.weighs.length ≤ 1000) :
    Calls Tryd.prog 32 #[valM lots size sv, valC x] w fun e w' => (∃ v, e = .returned (.tuple #[v, .int .i64 (putME (mOf lots size l) x.c)]) ∧ MlRet (putME (mOf lots size l) x.c) (putM (mOf lots size l) x.c) w.heap.size v w') ∧ Ext w w' := by
  have HS := Lib.hid hs; have HT := Lib.hid hT; have HLN := Lib.hid hlen; have HXD := Lib.hid hd; have HXW := Lib.hid hw; have HXL := Lib.hid hxl
  obtain ⟨A, n, c, rfl, hn, hlc, hcm⟩ := hs.1.form
  have HL := Lib.hid (show l.length = n from hn.out.symm)
  clear hs hT hn hlen hd hw hxl
  go_enter Tryd.func32, Tryd.ntmps32
  go_wp2_with fail
  obtain ⟨w2, hw2⟩ : ∃ w2, w2 = ((w.alloc (.cells #[.int .i64 lots, .int .i64 size, .slice A n c] 24)).alloc (.cells #[.int .i64 x.c.b.id, .int .i64 x.c.b.layers, .int .i64 x.c.b.dry.lo, .int .i64 x.c.b.dry.hi, .slice x.da x.dn x.dc, .slice x.wa x.wn x.wc, .int .i64 x.c.len, .int .i64 x.c.str] 61)).alloc (.cells #[.int .i64 0, .int .i64 0, .slice none 0 0] 24) := ⟨_, rfl⟩
  rw [← hw2]
  have B1 := Lib.hid (show Blk w2 w.heap.size 24 #[.int .i64 lots, .int .i64 size, .slice A n c] from hw2 ▸ ((Blk.new _ _ _).alloc _).alloc _)
  have BX := Lib.hid (show Blk w2 (w.heap.size + 1) 61 (encC x).toArray from hw2 ▸ (Blk.at_ (by simp)).alloc _)
  have BR := Lib.hid (show Blk w2 (w.heap.size + 1 + 1) 24 #[.int .i64 0, .int .i64 0, .slice none 0 0] from hw2 ▸ Blk.at_ (by simp))
  have E2 := Lib.hid (show Ext w w2 from hw2 ▸ ((Ext.al _ _).alloc _).alloc _)
  have HZ2 := Lib.hid (show w2.heap.size = w.heap.size + 3 by rw [hw2]; simp)
  clear hw2
  refine (checkM_any lots size l _ _ (HT.out.ext E2.out) (HS.out.ext E2.out) HLN.out).mono ?_
  rintro e w3 ⟨rfl, hE⟩
  replace B1 := Lib.hid (B1.out.ext hE); replace BX := Lib.hid (BX.out.ext hE); replace BR := Lib.hid (BR.out.ext hE)
  have E3 := Lib.hid (E2.out.trans hE)
  have HZ3 := Lib.hid (show w.heap.size + 3 ≤ w3.heap.size by have := HZ2.out; have := hE.size; omega)
  clear hE E2 HZ2
  obtain ⟨b0, b1, b2, bf, bl⟩ := B1.out.c3
  obtain ⟨r0, r1, r2, rf, rl⟩ := BR.out.c3
  cases hc : checkM (mOf lots size l) with
  | false =>
    have HPE := Lib.hid (show putME (mOf lots size l) x.c = 90 by unfold putME; rw [hc]; rfl)
    simp only [errB]
    clear hc
    go_wp2
    refine ret_set3N (BR.out) fun W' ⟨z0, z1, z2⟩ hW => ?_
    refine bodyPost_ret (v := .tuple #[valM 0 0 (.slice none 0 0), .int .i64 (90)]) (by simp only [results, Tryd.results32]; simp [go_sem, z0, z1, z2]) rfl ?_
    exact ⟨⟨_, by rw [HPE.out], .inr ⟨by rw [HPE.out]; decide, rfl⟩⟩, ext_grownP (E3.out) hW (by omega)⟩
  | true =>
    have HC := Lib.hid hc
    have HM := Lib.hid (mok_of hc)
    have hn7 : n ≤ 7 := by have h := HM.out.n7; simp at h; have := HL.out; omega
    simp only [errB]
    clear hc
    by_cases h7 : n = 7
    · have HPE := Lib.hid (show putME (mOf lots size l) x.c = 9 by unfold putME; rw [HC.out]; simp; have := HL.out; omega)
      have h7z : ((n : Int) == 7) = true := by simp; omega
      go_wp2
      refine ret_set3N (BR.out) fun W' ⟨z0, z1, z2⟩ hW => ?_
      refine bodyPost_ret (v := .tuple #[valM 0 0 (.slice none 0 0), .int .i64 (9)]) (by simp only [results, Tryd.results32]; simp [go_sem, z0, z1, z2]) rfl ?_
      exact ⟨⟨_, by rw [HPE.out], .inr ⟨by rw [HPE.out]; decide, rfl⟩⟩, ext_grownP (E3.out) hW (by omega)⟩
    · have h7z : ((n : Int) == 7) = false := by simp; omega
      go_upto_region 6 with (fail)
      have m0 := fun V (h : Ext w3 V) => (B1.out.ext h).c3.2.2.1
      have q0 := fun V (h : Ext w3 V) => (show V.cell? ⟨w.heap.size + 1, 0, none⟩ = some (.int .i64 x.c.b.id) from (BX.out.ext h).cell 0)
      have q1 := fun V (h : Ext w3 V) => (show V.cell? ⟨w.heap.size + 1, 1, none⟩ = some (.int .i64 x.c.b.layers) from (BX.out.ext h).cell 1)
      have q2 := fun V (h : Ext w3 V) => (show V.cell? ⟨w.heap.size + 1, 2, none⟩ = some (.int .i64 x.c.b.dry.lo) from (BX.out.ext h).cell 2)
      have q3 := fun V (h : Ext w3 V) => (show V.cell? ⟨w.heap.size + 1, 3, none⟩ = some (.int .i64 x.c.b.dry.hi) from (BX.out.ext h).cell 3)
      have q4 := fun V (h : Ext w3 V) => (show V.cell? ⟨w.heap.size + 1, 4, none⟩ = some (.slice x.da x.dn x.dc) from (BX.out.ext h).cell 4)
      have q5 := fun V (h : Ext w3 V) => (show V.cell? ⟨w.heap.size + 1, 5, none⟩ = some (.slice x.wa x.wn x.wc) from (BX.out.ext h).cell 5)
      have q6 := fun V (h : Ext w3 V) => (show V.cell? ⟨w.heap.size + 1, 6, none⟩ = some (.int .i64 x.c.len) from (BX.out.ext h).cell 6)
      have q7 := fun V (h : Ext w3 V) => (show V.cell? ⟨w.heap.size + 1, 7, none⟩ = some (.int .i64 x.c.str) from (BX.out.ext h).cell 7)
      clear b0 b1 b2 bf bl r0 r1 r2 rf rl h7z
      refine wp_region_tame_cutk (fun V => Ext w3 V) (fun V V' => Ext V V') (by kernel_rfl) 35 rfl 5 (by decide +kernel) (by decide +kernel) (by decide +kernel) (Ext.refl _).drew ?_
      simp only [List.take, List.drop]
      repeat (apply tame_q rfl; (intro ρ W hC hr hD; (obtain ⟨hrc, hrg, hrf, hrs⟩ := hr); (simp [go_sem] at hD); go_simp; first | exact ⟨⟨hC, Ext.refl _⟩, rfl⟩ | exact ⟨⟨hC, RS.refl _⟩, rfl⟩ | exact rfl); simp only [List.nil_append, List.cons_append])
      apply tame_v rfl (fun v V => Own encC 61 8 V w3.heap.size v l) (fun v V V' _ hE h => h.ext hE)
      · intro ρ V hC hr hD
        obtain ⟨hrc, hrg, hrf, hrs⟩ := hr
        simp [go_sem] at hD
        go_simp
        refine (cloneC_any _ l V (HS.out.1.ext (E3.out.trans hC)) HLN.out).mono ?_
        rintro e w' ⟨v', rfl, ho, hE⟩
        exact ⟨_, rfl, ⟨hC.trans hE, hE⟩, ho.mono hC.size⟩
      simp only [List.nil_append, List.cons_append]
      repeat (apply tame_q rfl; (intro ρ W hC hr hD; (obtain ⟨hrc, hrg, hrf, hrs⟩ := hr); (simp [go_sem] at hD); go_simp; first | exact ⟨⟨hC, Ext.refl _⟩, rfl⟩ | exact ⟨⟨hC, RS.refl _⟩, rfl⟩ | exact rfl); simp only [List.nil_append, List.cons_append])
      apply tame_v rfl (OneC x) (fun v V V' _ hE h => by obtain ⟨b', h1, h2⟩ := h; exact ⟨b', h1, h2.ext hE⟩)
      · intro ρ V hC hr hD
        obtain ⟨hrc, hrg, hrf, hrs⟩ := hr
        simp [go_sem] at hD
        go_simp
        exact ⟨⟨hC.alloc _, Ext.al _ _⟩, ⟨V.heap.size, rfl, Blk.new _ _ _⟩⟩
      simp only [List.nil_append, List.cons_append]
      refine tame_end 35 rfl rfl (fun ρ V hC hr hF => ?_)
      obtain ⟨hrc, hrg, hrf, hrs⟩ := hr
      have h20 : Own encC 61 8 V w3.heap.size (ρ (.tmp 20)) l := hF.2.2.1
      simp [go_sem] at hF
      obtain ⟨f18, f19, -, f21, ⟨b', f22, hB'⟩⟩ := hF
      obtain ⟨A3, n3, c3, e20, hn3, -, -⟩ := (show SlC V (ρ (.tmp 20)) l from Own.sl (enc := encC) encC_len h20).form
      rw [e20] at h20
      have H20 := Lib.hid h20; have HBB := Lib.hid hB'; have HCV := Lib.hid hC
      apply frame_to
      · go_simp
        exact rfl
      have EV := Lib.hid (E3.out.trans hC)
      replace B1 := Lib.hid (B1.out.ext hC); replace BR := Lib.hid (BR.out.ext hC)
      have hzv : w3.heap.size ≤ V.heap.size := hC.size
      clear f18 f19 f21 f22 h20 hB' e20 hrs hrc hrg hrf m0 q0 q1 q2 q3 q4 q5 q6 q7 hC hn3 BX
      have hll : l.length < 100000000000 := by have := HL.out; omega
      go_wp2_with (at_builtin; refine wpList_app encC 22 61 8 _ 96 Tryd.underlying22 info61x rfl (by decide) (by decide) encC_len encC_one rfl (.tmp 20) (.tmp 22) rfl w3.heap.size _ l rfl H20.out b' 1 x rfl (fun j u hu => by rw [HBB.out.cell j]; simpa using hu) hll hzv ?_)
      intro g cap w' hown hg2 hbel hgr
      have HOW := Lib.hid hown
      have E5 := Lib.hid (show Ext w w' from Below.trans EV.out (hbel.mono (by have := HZ3.out; omega)))
      replace B1 := Lib.hid (B1.out.below hbel (by have := HZ3.out; omega)); replace BR := Lib.hid (BR.out.below hbel (by have := HZ3.out; omega))
      have HZ5 := Lib.hid (show w3.heap.size ≤ w'.heap.size from Nat.le_trans hzv hbel.size)
      clear hown hg2 hbel hgr H20 HBB hzv
      obtain ⟨b0, b1, b2, bf, bl⟩ := B1.out.c3
      go_upto_region 7 with (fail)
      obtain ⟨w6, hw6⟩ : ∃ w6, w6 = w'.setCell ⟨w.heap.size, 2, none⟩ (.slice (some ⟨g, 0, none⟩) (l.length + 1) cap) := ⟨_, rfl⟩
      rw [← hw6]
      have E6 := Lib.hid (show Ext w w6 from hw6 ▸ E5.out.setCell (Nat.le_refl _) _)
      have C1 := Lib.hid (show Blk w6 w.heap.size 24 #[.int .i64 lots, .int .i64 size, .slice (some ⟨g, 0, none⟩) (l.length + 1) cap] by
        rw [hw6]; have h := B1.out.set_ 2 (.slice (some ⟨g, 0, none⟩) (l.length + 1) cap); simpa using h)
      have CR := Lib.hid (show Blk w6 (w.heap.size + 1 + 1) 24 #[.int .i64 0, .int .i64 0, .slice none 0 0] from hw6 ▸ BR.out.far (by dsimp only; omega) _)
      have O6 := Lib.hid (show Own encC 61 8 w6 w3.heap.size (.slice (some ⟨g, 0, none⟩) (l.length + 1) cap) (l ++ [x]) from hw6 ▸ (by simpa using HOW.out.far (a := ⟨w.heap.size, 2, none⟩) (by dsimp only; have := HZ3.out; omega) _))
      have ML6 := Lib.hid (sl_app HS.out HXD.out HXW.out E6.out O6.out)
      clear hw6 b0 b1 b2 bf bl B1 BR HOW E5
      obtain ⟨b0, b1, b2, bf, bl⟩ := C1.out.c3
      go_wp2_with fail
      refine (copiedM_any lots size (l ++ [x]) _ w6 ML6.out (by simp; have := HL.out; omega) (fun r hr => by
        rcases List.mem_append.1 hr with hr | hr
        · have h := valid_bds (HM.out.v r.c (List.mem_map_of_mem hr))
          exact ⟨by have := h.nd; omega, by have := h.nw; omega⟩
        · simp at hr
          subst hr
          exact HXL.out)).mono ?_
      rintro e w7 ⟨⟨v, L, rfl, tv⟩, hE⟩
      have TW := Lib.hid tv
      have E7 := Lib.hid (E6.out.trans hE)
      have HZ7 := Lib.hid (show w.heap.size + 3 ≤ w6.heap.size by have := CR.out.lt; omega)
      replace C1 := Lib.hid (C1.out.ext hE); replace CR := Lib.hid (CR.out.ext hE)
      have HLL := Lib.hid (show L.length = n + 1 by have h := congrArg List.length tv.map; simp at h; have := HL.out; omega)
      obtain ⟨g2, cap2, rfl⟩ : ∃ g2 cap2, v = .slice (some ⟨g2, 0, none⟩) (n + 1) cap2 := by
        rcases own_formG tv.own with ⟨-, h2⟩ | ⟨g', cap, cur, h1, -⟩
        · have h3 := HLL.out; rw [h2] at h3; simp at h3
        · exact ⟨g', cap, by rw [h1, HLL.out]⟩
      clear tv hE b0 b1 b2 bf bl
      dsimp only [valM]
      obtain ⟨b0, b1, b2, bf, bl⟩ := C1.out.c3
      go_upto_region 8 with (fail)
      obtain ⟨w8, hw8⟩ : ∃ w8, w8 = ((w7.setCell ⟨w.heap.size, 0, none⟩ (.int .i64 lots)).setCell ⟨w.heap.size, 1, none⟩ (.int .i64 size)).setCell ⟨w.heap.size, 2, none⟩ (.slice (some ⟨g2, 0, none⟩) (n + 1) cap2) := ⟨_, rfl⟩
      rw [← hw8]
      have hG8 : w7.grownBy w8 (some w.heap.size) := hw8 ▸ grown_set (grown_set (grown_set (World.grownBy.refl _ _) (p := ⟨w.heap.size, 0, none⟩) (.inl rfl) _) (p := ⟨w.heap.size, 1, none⟩) (.inl rfl) _) (p := ⟨w.heap.size, 2, none⟩) (.inl rfl) _
      have OF8 := Lib.hid (offX_grown C1.out hG8)
      have D1 := Lib.hid (show Blk w8 w.heap.size 24 #[.int .i64 lots, .int .i64 size, .slice (some ⟨g2, 0, none⟩) (n + 1) cap2] by
        rw [hw8]; have h := ((C1.out.set_ 0 (.int .i64 lots)).set_ 1 (.int .i64 size)).set_ 2 (.slice (some ⟨g2, 0, none⟩) (n + 1) cap2); simpa using h)
      have DR := Lib.hid (CR.out.grown hG8 (by intro e; injection e with e; omega))
      have E8 := Lib.hid (ext_grownP E7.out hG8 (Nat.le_refl _))
      have TW8 := Lib.hid (TW.out.offX OF8.out)
      clear hw8 hG8 OF8 b0 b1 b2 bf bl C1 CR TW E7
      obtain ⟨b0, b1, b2, bf, bl⟩ := D1.out.c3
      go_wp2_with fail
      refine (f74_any L g2 (n + 1) cap2 _ w8 HLL.out.symm (by omega) (by omega) TW8.out.own).mono ?_
      rintro e w9 ⟨⟨rv, rfl⟩, ho, hg⟩
      have O9 := Lib.hid ho
      have hgb : w6.heap.size ≤ g2 := by
        rcases own_formG TW8.out.own with ⟨h1, -⟩ | ⟨g', cap', cur, h1, h2, -⟩
        · simp at h1
        · obtain ⟨rfl, -⟩ : g2 = g' ∧ _ := by simpa using h1
          exact h2
      obtain ⟨g', cur, eg', -, hcur, -⟩ := rowC_of TW8.out.own (by rw [HLL.out]; omega)
      obtain rfl : g2 = g' := by simpa using eg'
      have OF9 := Lib.hid (offX_grown hcur hg)
      have TWL := Lib.hid (show TwinL w6.heap.size (putM (mOf lots size l) x.c).cots (.slice (some ⟨g2, 0, none⟩) (n + 1) cap2) (sortC L (n + 1)) w9 from ⟨O9.out, fun r hr => (TW8.out.lists r (sortC_mem _ hr)).off OF9.out, by
        rw [sortC_map, TW8.out.map]
        show sortK _ _ = sortK _ _
        congr 1
        · simp
        · simp [HL.out]⟩)
      have E9 := Lib.hid (ext_grownP E8.out hg (by have := HZ7.out; omega))
      replace D1 := Lib.hid (D1.out.grown hg (by intro e; injection e with e; have := HZ7.out; omega))
      replace DR := Lib.hid (DR.out.grown hg (by intro e; injection e with e; have := HZ7.out; omega))
      have HGB := Lib.hid hgb
      clear ho hg hgb hcur eg' b0 b1 b2 bf bl O9 TW8 OF9 E8
      have HMO := Lib.hid (show mOf lots size (sortC L (n + 1)) = putM (mOf lots size l) x.c by
        show (⟨lots, size, (sortC L (n + 1)).map (·.c)⟩ : Mll) = _
        rw [TWL.out.map]
        rfl)
      have HSL := Lib.hid (show (sortC L (n + 1)).length ≤ 1000 by rw [sortC_len L (n + 1) (by rw [HLL.out]; exact Nat.le_refl _)]; omega)
      obtain ⟨b0, b1, b2, bf, bl⟩ := D1.out.c3
      go_wp2_with fail
      refine (checkM_any lots size (sortC L (n + 1)) _ _ (HT.out.ext E9.out) TWL.out.mlc HSL.out).mono ?_
      rintro e w10 ⟨rfl, hE⟩
      rw [HMO.out]
      replace TWL := Lib.hid (TWL.out.ext hE)
      replace D1 := Lib.hid (D1.out.ext hE); replace DR := Lib.hid (DR.out.ext hE)
      have E10 := Lib.hid (E9.out.trans hE)
      clear hE b0 b1 b2 bf bl E9
      obtain ⟨b0, b1, b2, bf, bl⟩ := D1.out.c3
      obtain ⟨r0, r1, r2, rf, rl⟩ := DR.out.c3
      have HN7 := Lib.hid (show ¬ (mOf lots size l).cots.length = 7 by simp; have := HL.out; omega)
      cases hc2 : checkM (putM (mOf lots size l) x.c) with
      | false =>
        have HPE := Lib.hid (show putME (mOf lots size l) x.c = 93 by unfold putME; rw [HC.out, if_neg HN7.out, hc2]; rfl)
        simp only [errB]
        clear hc2
        go_wp2
        refine ret_set3N (DR.out) fun W' ⟨z0, z1, z2⟩ hW => ?_
        refine bodyPost_ret (v := .tuple #[valM 0 0 (.slice none 0 0), .int .i64 (93)]) (by simp only [results, Tryd.results32]; simp [go_sem, z0, z1, z2]) rfl ?_
        exact ⟨⟨_, by rw [HPE.out], .inr ⟨by rw [HPE.out]; decide, rfl⟩⟩, ext_grownP (E10.out) hW (by omega)⟩
      | true =>
        have HPE := Lib.hid (show putME (mOf lots size l) x.c = 0 by unfold putME; rw [HC.out, if_neg HN7.out, hc2]; rfl)
        simp only [errB]
        clear hc2
        go_wp2
        refine ret_set3N DR.out fun W' ⟨z0, z1, z2⟩ hW => ?_
        refine bodyPost_ret (v := .tuple #[valM lots size (.slice (some ⟨g2, 0, none⟩) (n + 1) cap2), .int .i64 0]) (by simp only [results, Tryd.results32]; simp [go_sem, z0, z1, z2]) rfl ?_
        exact ⟨⟨valM lots size (.slice (some ⟨g2, 0, none⟩) (n + 1) cap2), by rw [HPE.out], .inl ⟨HPE.out, _, _, rfl, (TWL.out.offX (offX_grown DR.out hW)).mono (by have := HZ7.out; omega)⟩⟩, ext_grownP E10.out hW (by omega)⟩
end Go.Proofs.YtkpengeaolcjhaaDoor
