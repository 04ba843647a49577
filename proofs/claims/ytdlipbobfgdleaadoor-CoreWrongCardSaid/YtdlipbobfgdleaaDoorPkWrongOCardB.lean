/- core.Strike and the reference's Strike answer alike. -/
import Derived.Test.YtdlipbobfgdleaaDoorPkWrongOCardA
import Derived.Test.YtdlipbobfgdleaaDoorPkDecideOCardA
import Derived.Test.YtdlipbobfgdleaaDoorPkTruthCardT
import Derived.Test.YtdlipbobfgdleaaDoorPkTruthCardR
namespace Go.Proofs.YtdlipbobfgdleaaDoor
open Go.RowKit Go.Shelf Go.Lib
set_option maxRecDepth 100000
set_option linter.unusedSimpArgs false

theorem rising_of : ∀ (l : List Int) (last : Int), l.Pairwise (· < ·) → (∀ n ∈ l, last < n ∧ n ≤ 9999) → risingB last l = true
  | [], _, _, _ => rfl
  | n :: l, last, h, hb => by
    rw [List.pairwise_cons] at h
    unfold risingB inB
    simp only [Bool.and_eq_true, decide_eq_true_eq]
    have h1 := hb n (by simp)
    exact ⟨by omega, rising_of l n h.2 fun m hm => ⟨h.1 m hm, (hb m (by simp [hm])).2⟩⟩
theorem rising_le : ∀ (l : List Int) (last : Int), risingB last l = true → ∀ n ∈ l, n ≤ 9999
  | [], _, _ => by simp
  | n :: l, last, h => by
    unfold risingB inB at h
    simp only [Bool.and_eq_true, decide_eq_true_eq] at h
    intro m hm
    rcases List.mem_cons.1 hm with rfl | hm
    · omega
    · exact rising_le l n h.2 m hm
theorem sorted_ext : ∀ (a b : List Int), a.Pairwise (· < ·) → b.Pairwise (· < ·) → (∀ x, x ∈ a ↔ x ∈ b) → a = b
  | [], [], _, _, _ => rfl
  | [], y :: b, _, _, h => absurd ((h y).2 (by simp)) (by simp)
  | x :: a, [], _, _, h => absurd ((h x).1 (by simp)) (by simp)
  | x :: a, y :: b, ha, hb, h => by
    rw [List.pairwise_cons] at ha hb
    have hxy : x = y := by
      rcases List.mem_cons.1 ((h x).1 (by simp)) with e | e
      · exact e
      · rcases List.mem_cons.1 ((h y).2 (by simp)) with f | f
        · exact f.symm
        · have := ha.1 y f; have := hb.1 x e; omega
    subst hxy
    rw [sorted_ext a b ha.2 hb.2 fun z => ⟨fun hz => by
      rcases List.mem_cons.1 ((h z).1 (by simp [hz])) with e | e
      · have := ha.1 z hz; omega
      · exact e, fun hz => by
      rcases List.mem_cons.1 ((h z).2 (by simp [hz])) with e | e
      · have := hb.1 z hz; omega
      · exact e⟩]
theorem listed_iff (l all : List Int) : listedB l all = true ↔ l.Pairwise (· < ·) ∧ ∀ y ∈ l, y ∈ all := by
  unfold listedB
  rw [List.all_eq_true]
  constructor
  · intro h
    have hs : ∀ i, i + 1 < l.length → l.getD i 0 < l.getD (i + 1) 0 := fun i hi => by
      have := h (i + 1) (by simp; omega)
      unfold okL at this
      simp only [Bool.and_eq_true, Bool.or_eq_true, decide_eq_true_eq] at this
      rcases this.2 with e | e
      · omega
      · simpa using e
    have hg : ∀ d i, i + 1 + d < l.length → l.getD i 0 < l.getD (i + 1 + d) 0 := fun d => by
      induction d with
      | zero => exact fun i hi => hs i hi
      | succ d ih => exact fun i hi => by have := ih i (by omega); have := hs (i + 1 + d) (by omega); rw [show i + 1 + (d + 1) = i + 1 + d + 1 by omega]; omega
    refine ⟨List.pairwise_iff_getElem.2 fun i j hi hj hij => ?_, fun y hy => ?_⟩
    · have := hg (j - i - 1) i (by omega)
      rw [show i + 1 + (j - i - 1) = j by omega, List.getD_eq_getElem?_getD, List.getD_eq_getElem?_getD, List.getElem?_eq_getElem hi, List.getElem?_eq_getElem hj] at this
      exact this
    · obtain ⟨i, hi, rfl⟩ := List.mem_iff_getElem.1 hy
      have := h i (by simpa using hi)
      unfold okL at this
      simp only [Bool.and_eq_true, List.any_eq_true, decide_eq_true_eq] at this
      obtain ⟨⟨z, hz, e⟩, -⟩ := this
      rw [List.getD_eq_getElem?_getD, List.getElem?_eq_getElem hi] at e
      rw [show l[i] = z from e]
      exact hz
  · rintro ⟨hp, hm⟩ i hi
    have hi : i < l.length := by simpa using hi
    unfold okL
    simp only [Bool.and_eq_true, Bool.or_eq_true, List.any_eq_true, decide_eq_true_eq]
    have e : l.getD i 0 = l[i] := by rw [List.getD_eq_getElem?_getD, List.getElem?_eq_getElem hi]; rfl
    refine ⟨⟨l[i], hm _ (List.getElem_mem hi), e⟩, ?_⟩
    by_cases h0 : i = 0
    · exact .inl h0
    · refine .inr ?_
      have := List.pairwise_iff_getElem.1 hp (i - 1) i (by omega) hi (by omega)
      rw [e, List.getD_eq_getElem?_getD, List.getElem?_eq_getElem (show i - 1 < l.length by omega)]
      exact this
theorem count_law {α : Type} (f : α → Int) (S : List α) (l : List Int) (hs : risingB 0 (S.map f) = true) :
    (risingB 0 l && decide ((S.filter fun x => !(l.any fun y => decide (f x = y))).length + l.length = S.length)) = listedB l (S.map f) := by
  have hS := rising_lt _ _ hs
  have hS9 := rising_le _ _ hs
  have hlen : (S.filter fun x => !(l.any fun y => decide (f x = y))).length + ((S.map f).filter fun n => l.any fun y => decide (n = y)).length = S.length := by
    have h1 := List.length_eq_countP_add_countP (fun x => l.any fun y => decide (f x = y)) (l := S)
    rw [List.countP_eq_length_filter, List.countP_eq_length_filter] at h1
    have h2 : ((S.map f).filter fun n => l.any fun y => decide (n = y)).length = (S.filter fun x => l.any fun y => decide (f x = y)).length := by
      rw [List.filter_map, List.length_map]; rfl
    have h3 : (fun a : α => decide ¬(l.any fun y => decide (f a = y)) = true) = fun x => !(l.any fun y => decide (f x = y)) := by
      funext x
      cases (l.any fun y => decide (f x = y)) <;> rfl
    rw [h3] at h1
    omega
  have hin : l.Pairwise (· < ·) → ((S.map f).filter fun n => l.any fun y => decide (n = y)) = l.filter fun y => (S.map f).any fun n => decide (y = n) := fun hp =>
    sorted_ext _ _ (hS.1.sublist List.filter_sublist) (hp.sublist List.filter_sublist) fun z => by
      simp only [List.mem_filter, List.any_eq_true, decide_eq_true_eq]
      exact ⟨fun ⟨h1, y, h2, e⟩ => ⟨e ▸ h2, z, h1, rfl⟩, fun ⟨h1, y, h2, e⟩ => ⟨e ▸ h2, z, h1, rfl⟩⟩
  rw [Bool.eq_iff_iff, listed_iff, Bool.and_eq_true, decide_eq_true_eq]
  constructor
  · rintro ⟨hr, he⟩
    have hl := (rising_lt _ _ hr).1
    refine ⟨hl, ?_⟩
    rw [hin hl] at hlen
    have h4 : (l.filter fun y => (S.map f).any fun n => decide (y = n)).length = l.length := by omega
    rw [List.length_filter_eq_length_iff] at h4
    intro y hy
    have := h4 y hy
    simp only [List.any_eq_true, decide_eq_true_eq] at this
    obtain ⟨n, hn, e⟩ := this
    exact e ▸ hn
  · rintro ⟨hl, hm⟩
    refine ⟨rising_of _ _ hl fun n hn => ⟨hS.2 n (hm n hn), hS9 n (hm n hn)⟩, ?_⟩
    rw [hin hl] at hlen
    have h4 : (l.filter fun y => (S.map f).any fun n => decide (y = n)).length = l.length := by
      rw [List.length_filter_eq_length_iff]
      intro y hy
      simp only [List.any_eq_true, decide_eq_true_eq]
      exact ⟨y, hm y hy, rfl⟩
    omega
theorem strike_law (b : Bale) (l k : List Int) : strikeE b l k = refStrE b l k ∧ strikeB b l k = refStrB b l k := by
  have h : strikeE b l k = refStrE b l k := by
    unfold strikeE refStrE
    cases hv : valid b with
    | false => rfl
    | true =>
      have hv2 := hv
      unfold valid chk2 at hv2
      simp only [Bool.and_eq_true] at hv2
      rw [if_pos rfl, if_pos rfl]
      unfold strD strW withB
      simp only
      rw [count_law (·.number) b.draws l hv2.2.1.1.2, count_law (·.number) b.weighs k hv2.2.1.2]
  exact ⟨h, by unfold strikeB refStrB; rw [h]⟩
end Go.Proofs.YtdlipbobfgdleaaDoor
/- The plain law of CoreWrong: the fewest must be false. -/
namespace Go.Proofs.YtdlipbobfgdleaaDoor
open Go.RowKit Go.Shelf Go.Lib
set_option maxRecDepth 100000
set_option linter.unusedSimpArgs false

/-- Lists of numbers stand in their order. -/
theorem combos_lex : ∀ {n : Nat} {all : List Int}, all.Pairwise (· < ·) → (combos n all).Pairwise fun a b => lexL a b = true
  | 0, _, _ => by unfold combos; exact List.pairwise_singleton ..
  | n + 1, [], _ => by unfold combos; exact List.Pairwise.nil
  | n + 1, x :: r, h => by
    rw [List.pairwise_cons] at h
    unfold combos
    rw [List.pairwise_append]
    refine ⟨?_, combos_lex h.2, fun a ha b hb => ?_⟩
    · rw [List.pairwise_map]
      exact (combos_lex h.2).imp fun hl => by unfold lexL; simpa using hl
    · obtain ⟨u, hu, rfl⟩ := List.mem_map.1 ha
      have hl := combos_len hb
      cases b with
      | nil => cases hl
      | cons y b =>
        have := h.1 y (combos_mem hb y (List.mem_cons_self ..))
        unfold lexL
        rw [if_pos (by omega)]
        exact decide_eq_true this
theorem lists_before {all : List Int} (h : all.Pairwise (· < ·)) (m : Nat) : (listsL all m).Pairwise fun a b => beforeL a b = true := by
  unfold listsL
  rw [List.pairwise_flatMap]
  refine ⟨fun n _ => List.Pairwise.imp_of_mem (fun {a b} ha hb hl => ?_) (combos_lex (n := n) h), List.pairwise_lt_range.imp fun {i j} hij a ha b hb => ?_⟩
  · unfold beforeL
    rw [combos_len ha, combos_len hb, if_neg (by omega)]
    exact hl
  · unfold beforeL
    rw [combos_len ha, combos_len hb, if_pos (by omega)]
    exact decide_eq_true hij
theorem sub_combos {m all : List Int} (h : m.Sublist all) : m ∈ combos m.length all := by
  induction h with
  | slnil => simp [combos]
  | @cons l₁ l₂ a h ih =>
    cases hl : l₁ with
    | nil => simp [combos]
    | cons y t =>
      rw [hl] at ih
      unfold combos
      exact List.mem_append_right _ ih
  | @cons_cons l₁ l₂ a h ih =>
    show a :: l₁ ∈ combos (l₁.length + 1) (a :: l₂)
    unfold combos
    exact List.mem_append_left _ (List.mem_map.2 ⟨_, ih, rfl⟩)
theorem combos_sub : ∀ {n : Nat} {all x : List Int}, x ∈ combos n all → x.Sublist all
  | 0, _, x, h => by simp [combos] at h; subst h; exact List.nil_sublist _
  | n + 1, [], x, h => by simp [combos] at h
  | n + 1, y :: r, x, h => by
    unfold combos at h
    rcases List.mem_append.1 h with h | h
    · obtain ⟨u, hu, rfl⟩ := List.mem_map.1 h
      exact (combos_sub hu).cons_cons y
    · exact (combos_sub h).cons y
theorem lists_iff {all x : List Int} {m : Nat} : x ∈ listsL all m ↔ x.Sublist all ∧ x.length ≤ m := by
  constructor
  · intro h
    have hl := (lists_mem h).2.1
    unfold listsL at h
    obtain ⟨n, _, hx⟩ := List.mem_flatMap.1 h
    exact ⟨combos_sub hx, hl⟩
  · rintro ⟨h1, h2⟩
    unfold listsL
    have := h1.length_le
    exact List.mem_flatMap.2 ⟨x.length, List.mem_range.2 (by omega), sub_combos h1⟩

/-! A bale without some of its draws and weighings. -/
theorem number_lt {b : Bale} (hv : valid b = true) : (b.draws.map (·.number)).Pairwise (· < ·) ∧ (b.weighs.map (·.number)).Pairwise (· < ·) ∧ risingB 0 (b.draws.map (·.number)) = true ∧ risingB 0 (b.weighs.map (·.number)) = true := by
  have h := hv
  unfold valid chk2 at h
  simp only [Bool.and_eq_true] at h
  exact ⟨(rise_lt _ _ h.2.1.1.2).1, (rise_lt _ _ h.2.1.2).1, h.2.1.1.2, h.2.1.2⟩
theorem rise_sub {l m : List Int} (h : risingB 0 l = true) (hs : m.Sublist l) : risingB 0 m = true :=
  rise_of _ _ ((rise_lt _ _ h).1.sublist hs) fun n hn => ⟨(rise_lt _ _ h).2 n (hs.mem hn), rising_le _ _ h n (hs.mem hn)⟩
theorem withB_ok {b : Bale} (hv : valid b = true) (l k : List Int) : valid (withB b l k) = true := by
  have hn := number_lt hv
  have h := hv
  unfold valid chk2 at h ⊢
  simp only [Bool.and_eq_true, Bool.not_eq_true', decide_eq_true_eq] at h ⊢
  obtain ⟨h1, ⟨⟨⟨h2, h3⟩, h4⟩, h5⟩, h6, h7⟩ := h
  refine ⟨h1, ⟨⟨⟨?_, ?_⟩, ?_⟩, ?_⟩, ?_, ?_⟩
  · have : (withB b l k).draws.length ≤ b.draws.length := List.length_filter_le _ _
    omega
  · have : (withB b l k).weighs.length ≤ b.weighs.length := List.length_filter_le _ _
    omega
  · exact rise_sub h4 (List.Sublist.map _ List.filter_sublist)
  · exact rise_sub h5 (List.Sublist.map _ List.filter_sublist)
  · rw [List.any_eq_false] at h6 ⊢
    exact fun x hx => h6 x (List.mem_filter.1 hx).1
  · rw [List.any_eq_false] at h7 ⊢
    exact fun x hx => h7 x (List.mem_filter.1 hx).1
/-- Lists out of a bale's Numbers can be struck. -/
theorem strike_ok {b : Bale} (hv : valid b = true) {l k : List Int} (hl : l.Sublist (b.draws.map (·.number))) (hk : k.Sublist (b.weighs.map (·.number))) : strikeE b l k = 0 ∧ strikeB b l k = withB b l k := by
  obtain ⟨n1, n2, n3, n4⟩ := number_lt hv
  have h : strikeE b l k = 0 := by
    unfold strikeE strD strW withB
    dsimp only
    rw [hv, count_law (·.number) b.draws l n3, count_law (·.number) b.weighs k n4, (listed_iff _ _).2 ⟨n1.sublist hl, fun y hy => hl.mem hy⟩, (listed_iff _ _).2 ⟨n2.sublist hk, fun y hy => hk.mem hy⟩]
    rfl
  exact ⟨h, by unfold strikeB; rw [if_pos h]⟩
/-- Whether a bale without some has a truth. -/
def clearD (b : Bale) (l : List Int) : Bool := grown (spans (withB b l []))
def clearW (b : Bale) (k : List Int) : Bool := decide (0 < (dries (withB b [] k)).length)
theorem with_ok (b : Bale) (l k : List Int) : okB (withB b l k) = (clearD b l && clearW b k) := by
  unfold okB clearD clearW
  have e1 : spans (withB b l k) = spans (withB b l []) := rfl
  have e2 : dries (withB b l k) = dries (withB b [] k) := rfl
  rw [e1, e2]
  congr 1
  cases dries (withB b [] k) <;> simp
/-- What is told of a bale that can be wrong. -/
structure WrongOf (b : Bale) (l k : List Int) (e : Int) : Prop where
  err : e = 0 ∨ e = 4
  subl : l.Sublist (b.draws.map (·.number))
  subk : k.Sublist (b.weighs.map (·.number))
  lenl : l.length ≤ 3
  lenk : k.length ≤ 3
  no : e = 4 → l = [] ∧ k = [] ∧ okB (withB b l k) = false ∧ ∀ m n : List Int, m.Sublist (b.draws.map (·.number)) → n.Sublist (b.weighs.map (·.number)) → okB (withB b m n) = true → 3 < m.length ∨ 3 < n.length
  yes : e = 0 → okB (withB b l k) = true ∧ ∀ m n : List Int, m.Sublist (b.draws.map (·.number)) → n.Sublist (b.weighs.map (·.number)) → okB (withB b m n) = true → beforeL m l = false ∧ beforeL n k = false
theorem find_before {f : List Int → Bool} {all x m : List Int} (h : all.Pairwise (· < ·)) (hf : (listsL all 3).find? f = some x) (hm : m.Sublist all) (hc : f m = true) (hl : m.length ≤ 3) : beforeL m x = false := by
  cases hb : beforeL m x with
  | false => rfl
  | true =>
    obtain ⟨y, e, -, -, hy⟩ := find_least (lists_before h 3) (lists_iff.2 ⟨hm, hl⟩) hc
    rw [hf] at e
    injection e with e
    subst e
    rcases hy with rfl | hy
    · rw [before_irr] at hb; cases hb
    · have := before_trans hb hy
      rw [before_irr] at this; cases this
theorem before_len {a b : List Int} (h : beforeL a b = true) : a.length ≤ b.length := by
  unfold beforeL at h
  split at h
  · have := of_decide_eq_true h; omega
  · omega
theorem wrong_of {b : Bale} (hv : valid b = true) : WrongOf b (wrongL b) (wrongK b) (wrongE b) := by
  obtain ⟨n1, n2, n3, n4⟩ := number_lt hv
  unfold wrongL wrongK wrongE
  rw [if_pos hv]
  have hD : wrongD b = (listsL (b.draws.map (·.number)) 3).find? (clearD b) := rfl
  have hW : wrongW b = (listsL (b.weighs.map (·.number)) 3).find? (clearW b) := rfl
  by_cases hs : ((wrongD b).isSome && (wrongW b).isSome) = true
  · rw [if_pos hs]
    simp only [Bool.and_eq_true] at hs
    obtain ⟨l, hl⟩ := Option.isSome_iff_exists.1 hs.1
    obtain ⟨k, hk⟩ := Option.isSome_iff_exists.1 hs.2
    rw [if_pos rfl, if_pos rfl, hl, hk]
    rw [hD] at hl
    rw [hW] at hk
    simp only [Option.getD_some]
    have ml := lists_iff.1 (List.mem_of_find?_eq_some hl)
    have mk := lists_iff.1 (List.mem_of_find?_eq_some hk)
    refine ⟨.inl rfl, ml.1, mk.1, ml.2, mk.2, fun h => (by cases h), fun _ => ⟨?_, fun m n hm hn hc => ?_⟩⟩
    · rw [with_ok, List.find?_some hl, List.find?_some hk]; rfl
    · rw [with_ok] at hc
      simp only [Bool.and_eq_true] at hc
      constructor
      · by_cases h3 : m.length ≤ 3
        · exact find_before n1 hl hm hc.1 h3
        · cases hb : beforeL m l with
          | false => rfl
          | true => have := before_len hb; omega
      · by_cases h3 : n.length ≤ 3
        · exact find_before n2 hk hn hc.2 h3
        · cases hb : beforeL n k with
          | false => rfl
          | true => have := before_len hb; omega
  · rw [if_neg hs]
    rw [if_neg (by decide), if_neg (by decide)]
    have key : ∀ m n : List Int, m.Sublist (b.draws.map (·.number)) → n.Sublist (b.weighs.map (·.number)) → okB (withB b m n) = true → 3 < m.length ∨ 3 < n.length := by
      intro m n hm hn hc
      rw [with_ok] at hc
      simp only [Bool.and_eq_true] at hc
      refine Classical.byContradiction fun hcon => hs ?_
      have h3 : m.length ≤ 3 ∧ n.length ≤ 3 := by omega
      rw [hD, hW, Bool.and_eq_true]
      exact ⟨List.find?_isSome.2 ⟨m, lists_iff.2 ⟨hm, h3.1⟩, hc.1⟩, List.find?_isSome.2 ⟨n, lists_iff.2 ⟨hn, h3.2⟩, hc.2⟩⟩
    refine ⟨.inr rfl, List.nil_sublist _, List.nil_sublist _, by decide, by decide, fun _ => ⟨rfl, rfl, ?_, key⟩, fun h => (by cases h)⟩
    cases hc : okB (withB b [] []) with
    | false => rfl
    | true =>
      have := key [] [] (List.nil_sublist _) (List.nil_sublist _) hc
      simp at this
end Go.Proofs.YtdlipbobfgdleaaDoor
/- middlinglaw03.some: numbers of draws and of weighings, by bits. -/
namespace Go.Proofs.YtdlipbobfgdleaaDoor
open Go.RowKit Go.Shelf Go.Lib
set_option maxRecDepth 100000
set_option linter.unusedSimpArgs false

theorem bit_u16 {j : Nat} (hj : j < 65536) (i : Nat) : bits BinOp.and IntKind.u16 ((j : Int) / (2 : Int) ^ i) 1 = ((j / 2 ^ i % 2 : Nat) : Int) := by
  have e : (j : Int) / (2 : Int) ^ i = ((j / 2 ^ i : Nat) : Int) := by rw [Int.natCast_ediv, Int.natCast_pow]; rfl
  rw [e]
  have ha : j / 2 ^ i < 65536 := Nat.lt_of_le_of_lt (Nat.div_le_self _ _) hj
  generalize j / 2 ^ i = a at ha
  have h1 : (BitVec.ofInt 16 (a : Int)).toNat = a := by
    rw [BitVec.ofInt_natCast, BitVec.toNat_ofNat]; exact Nat.mod_eq_of_lt (by omega)
  have h2 : (BitVec.ofInt 16 (1 : Int)).toNat = 1 := by decide
  show IntKind.u16.wrap ((BitVec.ofInt 16 (a : Int) &&& BitVec.ofInt 16 (1 : Int)).toNat : Int) = _
  rw [BitVec.toNat_and, h1, h2, Nat.and_one_is_mod]
  have : a % 2 = 0 ∨ a % 2 = 1 := by omega
  rcases this with h | h <;> rw [h] <;> decide
/-- Some of a list, by bits of a natural number. -/
def pickTo (l : List Int) (j : Nat) : Nat → List Int
  | 0 => []
  | k + 1 => pickTo l j k ++ (if j / 2 ^ k % 2 = 1 then [(l[k]?).getD 0] else [])
theorem pick_sub (l : List Int) (j : Nat) : ∀ k, k ≤ l.length → (pickTo l j k).Sublist (l.take k)
  | 0, _ => List.nil_sublist _
  | k + 1, h => by
    rw [List.take_add_one, List.getElem?_eq_getElem (by omega)]
    unfold pickTo
    refine List.Sublist.append (pick_sub l j k (by omega)) ?_
    split
    · rw [List.getElem?_eq_getElem (by omega)]; exact List.Sublist.refl _
    · exact List.nil_sublist _
theorem pick_len (l : List Int) (j : Nat) : ∀ k, (pickTo l j k).length ≤ k
  | 0 => Nat.le_refl _
  | k + 1 => by
    have := pick_len l j k
    unfold pickTo
    rw [List.length_append]
    split <;> simp <;> omega
def someD (b : Bale) (j : Nat) : List Int := pickTo (b.draws.map (·.number)) j b.draws.length
def someW (b : Bale) (j : Nat) : List Int := pickTo (b.weighs.map (·.number)) j b.weighs.length
theorem someD_sub (b : Bale) (j : Nat) : (someD b j).Sublist (b.draws.map (·.number)) := by
  have := pick_sub (b.draws.map (·.number)) j b.draws.length (by simp)
  rwa [List.take_of_length_le (by simp)] at this
theorem someW_sub (b : Bale) (j : Nat) : (someW b j).Sublist (b.weighs.map (·.number)) := by
  have := pick_sub (b.weighs.map (·.number)) j b.weighs.length (by simp)
  rwa [List.take_of_length_le (by simp)] at this

set_option maxHeartbeats 4000000 in
theorem some_any (b : Bale) (x1 x2 : Nat) (dv wv : Value) (w : World) (hd10 : b.draws.length ≤ 10) (hw8 : b.weighs.length ≤ 8) (hd : SlD w dv b.draws) (hw : SlW w wv b.weighs) (hx1 : x1 < 65536) (hx2 : x2 < 65536) :
    Calls Tryd.prog 67 #[valB b dv wv, .int .u16 (x1 : Int), .int .u16 (x2 : Int)] w fun e w' => (∃ u1 u2, e = .returned (.tuple #[u1, u2]) ∧ SlI w' u1 (someD b x1) ∧ SlI w' u2 (someW b x2)) ∧ Ext w w' := by
  have HD := Lib.hid hd
  have HW := Lib.hid hw
  have HX1 := Lib.hid hx1; have HX2 := Lib.hid hx2
  obtain ⟨A, n, cp, rfl, hn, hlc, hcm⟩ := hd.form
  obtain ⟨A2, n2, cp2, rfl, hn2, hlc2, hcm2⟩ := hw.form
  have h10 : n ≤ 10 := by have := hn.out; omega
  have h8 : n2 ≤ 8 := by have := hn2.out; omega
  clear hd hw hx1 hx2 hd10 hw8
  go_enter Tryd.func67, Tryd.ntmps67
  go_wp2
  have E0 := Lib.hid (Ext.al w (.cells #[.int .i64 b.id, .int .i64 b.layers, .int .i64 b.dry.lo, .int .i64 b.dry.hi, .slice A n cp, .slice A2 n2 cp2] 27))
  have B0 := Lib.hid (Blk.new w 27 #[.int .i64 b.id, .int .i64 b.layers, .int .i64 b.dry.lo, .int .i64 b.dry.hi, .slice A n cp, .slice A2 n2 cp2])
  generalize w.alloc (.cells #[.int .i64 b.id, .int .i64 b.layers, .int .i64 b.dry.lo, .int .i64 b.dry.hi, .slice A n cp, .slice A2 n2 cp2] 27) = w1 at E0 B0 ⊢
  go_loopg [8, 17] n (fun gg s8 s17 wr => ∃ i : Nat, i ≤ n ∧ n - i ≤ gg ∧ s17 = .int .i64 (i : Int) ∧ Aside (Own encI 3 1 wr w1.heap.size s8 (pickTo (b.draws.map (·.number)) x1 i)) ∧ Aside (Ext w1 wr))
  case atStart => exact ⟨0, by omega, by omega, rfl, Own.nil _ _, Ext.refl _⟩
  case round =>
    obtain ⟨i, hi, hg, rfl, OV, EX⟩ := hrel
    by_cases hin : i < n
    · have hiz : (i : Int) < (n : Int) := by omega
      have hi0 : (0 : Int) ≤ (i : Int) := by omega
      obtain ⟨bb, off, x, rfl, hx, hb, hcell⟩ := HD.out.at_ hin
      obtain ⟨c0, c1, c2, c3⟩ := SlD.cells hcell (E0.out.trans EX.out)
      have HXI := Lib.hid (show (b.draws.map (·.number))[i]? = some x.number by rw [List.getElem?_map, hx]; rfl)
      have hrm : (i : Int).tmod 16 = (i : Int) := by rw [Int.tmod_eq_emod_of_nonneg hi0]; omega
      have hmi : min i 16 = i := by omega
      have hi5 : (i : Int) ≤ 10 := by omega
      have hba := bit_u16 HX1.out i
      have HPL := Lib.hid (show (pickTo (b.draws.map (·.number)) x1 i).length < 100000000000 by have := pick_len (b.draws.map (·.number)) x1 i; omega)
      clear hx hcell hb
      by_cases hbit : x1 / 2 ^ i % 2 = 1
      · have hb1 : bits BinOp.and IntKind.u16 ((x1 : Int) / (2 : Int) ^ i) 1 = 1 := by rw [hba, hbit]; rfl
        have HTS := Lib.hid (show pickTo (b.draws.map (·.number)) x1 (i + 1) = pickTo (b.draws.map (·.number)) x1 i ++ [x.number] by rw [pickTo, if_pos hbit, HXI.out]; rfl)
        clear hba hbit
        go_wp2_with (at_builtin; refine wpList_app encI 56 3 1 _ 8 Tryd.underlying56 info3x rfl (by decide) (by decide) (fun _ => rfl) encI_one rfl (.tmp 28) (.tmp 31) rfl w1.heap.size _ (pickTo (b.draws.map (·.number)) x1 i) rfl ((OV.out.alloc _).alloc _) (wr.heap.size + 1) 1 x.number rfl (cells1 (by simp [go_sem])) HPL.out (by have := EX.out.size; simp; omega) ?_)
        intro g cap w' hown hg2 hbel _
        have HO2 := Lib.hid hown
        have HE := Lib.hid (show Ext w1 w' from Below.trans ((EX.out.alloc _).alloc _) hbel)
        clear hown hg2 hbel
        go_wp2
        go_roundg (n - (i + 1))
        case measure => omega
        case rel => exact ⟨i + 1, by omega, by omega, by simp, by rw [HTS.out]; exact HO2.out, HE.out⟩
      · have hb1 : bits BinOp.and IntKind.u16 ((x1 : Int) / (2 : Int) ^ i) 1 = 0 := by rw [hba, show x1 / 2 ^ i % 2 = 0 by omega]; rfl
        have HTS := Lib.hid (show pickTo (b.draws.map (·.number)) x1 (i + 1) = pickTo (b.draws.map (·.number)) x1 i by rw [pickTo, if_neg hbit]; simp)
        clear hba hbit
        go_wp2
        go_roundg (n - (i + 1))
        case measure => omega
        case rel => exact ⟨i + 1, by omega, by omega, by simp, by rw [HTS.out]; exact OV.out.alloc _, EX.out.alloc _⟩
    · obtain rfl : i = n := by omega
      have HS8 := Lib.hid (show SlI wr u8 (someD b x1) by have h := Own.sl (enc := encI) (sz := 1) (fun _ => rfl) OV.out; unfold someD; rw [← hn.out]; exact h)
      have EX1 := Lib.hid EX.out
      have x5 : wr.cell? ⟨w.heap.size, 5, none⟩ = some (.slice A2 n2 cp2) := (B0.out.ext EX.out).cell 5
      have xl : w.heap.size < wr.heap.size := (B0.out.ext EX.out).lt
      clear OV EX
      obtain ⟨wo, hwo⟩ : ∃ wo : World, wo = wr := ⟨_, rfl⟩
      subst hwo
      go_wp2
      clear x5 xl
      go_loopg [9, 37] n2 (fun gg s9 s37 wr => ∃ i : Nat, i ≤ n2 ∧ n2 - i ≤ gg ∧ s37 = .int .i64 (i : Int) ∧ Aside (Own encI 3 1 wr wo.heap.size s9 (pickTo (b.weighs.map (·.number)) x2 i)) ∧ Aside (Ext wo wr))
      case atStart => exact ⟨0, by omega, by omega, rfl, Own.nil _ _, Ext.refl _⟩
      case round =>
        obtain ⟨i, hi, hg, rfl, OV, EX⟩ := hrel
        by_cases hin : i < n2
        · have hiz : (i : Int) < (n2 : Int) := by omega
          have hi0 : (0 : Int) ≤ (i : Int) := by omega
          obtain ⟨bb, off, x, rfl, hx, hb, hcell⟩ := HW.out.at_ hin
          obtain ⟨c0, c1, c2, c3⟩ := SlW.cells hcell ((E0.out.trans EX1.out).trans EX.out)
          have HXI := Lib.hid (show (b.weighs.map (·.number))[i]? = some x.number by rw [List.getElem?_map, hx]; rfl)
          have hrm : (i : Int).tmod 16 = (i : Int) := by rw [Int.tmod_eq_emod_of_nonneg hi0]; omega
          have hmi : min i 16 = i := by omega
          have hi5 : (i : Int) ≤ 10 := by omega
          have hba := bit_u16 HX2.out i
          have HPL := Lib.hid (show (pickTo (b.weighs.map (·.number)) x2 i).length < 100000000000 by have := pick_len (b.weighs.map (·.number)) x2 i; omega)
          clear hx hcell hb
          by_cases hbit : x2 / 2 ^ i % 2 = 1
          · have hb1 : bits BinOp.and IntKind.u16 ((x2 : Int) / (2 : Int) ^ i) 1 = 1 := by rw [hba, hbit]; rfl
            have HTS := Lib.hid (show pickTo (b.weighs.map (·.number)) x2 (i + 1) = pickTo (b.weighs.map (·.number)) x2 i ++ [x.number] by rw [pickTo, if_pos hbit, HXI.out]; rfl)
            clear hba hbit
            go_wp2_with (at_builtin; refine wpList_app encI 56 3 1 _ 8 Tryd.underlying56 info3x rfl (by decide) (by decide) (fun _ => rfl) encI_one rfl (.tmp 48) (.tmp 51) rfl wo.heap.size _ (pickTo (b.weighs.map (·.number)) x2 i) rfl ((OV.out.alloc _).alloc _) (wr.heap.size + 1) 1 x.number rfl (cells1 (by simp [go_sem])) HPL.out (by have := EX.out.size; simp; omega) ?_)
            intro g cap w' hown hg2 hbel _
            have HO2 := Lib.hid hown
            have HE := Lib.hid (show Ext wo w' from Below.trans ((EX.out.alloc _).alloc _) hbel)
            clear hown hg2 hbel
            go_wp2
            go_roundg (n2 - (i + 1))
            case measure => omega
            case rel => exact ⟨i + 1, by omega, by omega, by simp, by rw [HTS.out]; exact HO2.out, HE.out⟩
          · have hb1 : bits BinOp.and IntKind.u16 ((x2 : Int) / (2 : Int) ^ i) 1 = 0 := by rw [hba, show x2 / 2 ^ i % 2 = 0 by omega]; rfl
            have HTS := Lib.hid (show pickTo (b.weighs.map (·.number)) x2 (i + 1) = pickTo (b.weighs.map (·.number)) x2 i by rw [pickTo, if_neg hbit]; simp)
            clear hba hbit
            go_wp2
            go_roundg (n2 - (i + 1))
            case measure => omega
            case rel => exact ⟨i + 1, by omega, by omega, by simp, by rw [HTS.out]; exact OV.out.alloc _, EX.out.alloc _⟩
        · obtain rfl : i = n2 := by omega
          have HS9 := Lib.hid (show SlI wr u9 (someW b x2) by have h := Own.sl (enc := encI) (sz := 1) (fun _ => rfl) OV.out; unfold someW; rw [← hn2.out]; exact h)
          go_wp2
          go_ret2
          exact ⟨⟨_, _, rfl, HS8.out.ext EX.out, HS9.out⟩, (E0.out.trans EX1.out).trans EX.out⟩
end Go.Proofs.YtdlipbobfgdleaaDoor
/- middlinglaw03.CoreWrong: the walk. -/
namespace Go.Proofs.YtdlipbobfgdleaaDoor
open Go.RowKit Go.Shelf Go.Lib
set_option maxRecDepth 100000
set_option linter.unusedSimpArgs false

/-- A struck bale, laid into a box. -/
theorem strike_box {bt : Bale} {w9 wt : World} {v : Value} (h : TwinV bt w9.heap.size v wt) (hT : Tab w9) (hE : Ext w9 wt) :
    ∃ A n c A2 n2 c2, v = valB bt (.slice A n c) (.slice A2 n2 c2) ∧ SB bt w9 wt.heap.size (.slice A n c) (.slice A2 n2 c2) (wt.alloc (.cells #[.int .i64 bt.id, .int .i64 bt.layers, .int .i64 bt.dry.lo, .int .i64 bt.dry.hi, .slice A n c, .slice A2 n2 c2] 27)) := by
  obtain ⟨dv, wv, rfl, o1, o2⟩ := h
  have hsl : SlD wt dv bt.draws := o1.sl (fun _ => rfl)
  have hsw : SlW wt wv bt.weighs := o2.sl (fun _ => rfl)
  obtain ⟨A, n, c, rfl, -, -, -⟩ := hsl.form
  obtain ⟨A2, n2, c2, rfl, -, -, -⟩ := hsw.form
  exact ⟨A, n, c, A2, n2, c2, rfl, hE.trans (Ext.al _ _), Blk.new _ _ _, hT.ext (hE.trans (Ext.al _ _)), hsl.ext (Ext.al _ _), hsw.ext (Ext.al _ _)⟩

set_option maxHeartbeats 8000000 in
theorem wrongLaw_any (b : Bale) (x1 x2 : Int) (dv wv : Value) (w : World) (hT : Tab w) (hd : SlD w dv b.draws) (hw : SlW w wv b.weighs) (hx1 : 0 ≤ x1 ∧ x1 ≤ 65535) (hx2 : 0 ≤ x2 ∧ x2 ≤ 65535) :
    Calls Tryd.prog 12 #[valB b dv wv, .int .u16 x1, .int .u16 x2] w fun e w' => e = .returned (.bool true) ∧ Ext w w' := by
  obtain ⟨j1, rfl⟩ : ∃ j : Nat, x1 = (j : Int) := ⟨x1.toNat, by omega⟩
  obtain ⟨j2, rfl⟩ : ∃ j : Nat, x2 = (j : Int) := ⟨x2.toNat, by omega⟩
  have HJ := Lib.hid (show j1 < 65536 ∧ j2 < 65536 by omega)
  have HT := Lib.hid hT
  have HD := Lib.hid hd
  have HW := Lib.hid hw
  obtain ⟨A, n, cp, rfl, hn, hlc, hcm⟩ := hd.form
  obtain ⟨A2, n2, cp2, rfl, hn2, hlc2, hcm2⟩ := hw.form
  clear hd hw hT hx1 hx2
  go_enter Tryd.func12, Tryd.ntmps12
  go_wp2_with fail
  have S0 := Lib.hid (show SB b w w.heap.size (.slice A n cp) (.slice A2 n2 cp2) _ from ⟨Ext.al _ (.cells #[.int .i64 b.id, .int .i64 b.layers, .int .i64 b.dry.lo, .int .i64 b.dry.hi, .slice A n cp, .slice A2 n2 cp2] 27), Blk.new _ _ _, HT.out.ext (Ext.al _ _), HD.out.ext (Ext.al _ _), HW.out.ext (Ext.al _ _)⟩)
  refine (alive_any _ S0.out.t).mono ?_
  rintro e w1 ⟨rfl, hE⟩
  have S1 := Lib.hid (S0.out.ext hE); clear S0 hE
  obtain ⟨y0, y1, y2, y3, y4, y5, yl⟩ := S1.out.cells
  go_wp2_with fail
  clear y0 y1 y2 y3 y4 y5 yl
  refine (great_any b _ _ _ S1.out.d S1.out.w).mono ?_
  rintro e w2 ⟨rfl, hE⟩
  have S2 := Lib.hid (S1.out.ext hE); clear S1 hE
  cases hg : greatB b with
  | true =>
    go_wp2
    go_ret
    exact ⟨rfl, S2.out.e⟩
  | false =>
    clear hg
    obtain ⟨y0, y1, y2, y3, y4, y5, yl⟩ := S2.out.cells
    go_wp2_with fail
    clear y0 y1 y2 y3 y4 y5 yl
    refine (refBale_any b _ _ _ S2.out.d S2.out.w).mono ?_
    rintro e w3 ⟨rfl, hE⟩
    rw [refValid_eq]
    have S3 := Lib.hid (S2.out.ext hE); clear S2 hE
    cases hv : valid b with
    | false =>
      go_wp2
      go_ret
      exact ⟨rfl, S3.out.e⟩
    | true =>
      have HV := Lib.hid hv
      have HBD := Lib.hid (valid_bds hv)
      clear hv
      obtain ⟨y0, y1, y2, y3, y4, y5, yl⟩ := S3.out.cells
      go_wp2_with fail
      clear y0 y1 y2 y3 y4 y5 yl
      refine (wrong_any b _ _ _ S3.out.t S3.out.d S3.out.w).mono ?_
      rintro e w4 ⟨u1, u2, rfl, hs1, hs2, hE⟩
      have S4 := Lib.hid (S3.out.ext hE); clear S3 hE
      have HWR := Lib.hid (wrong_of HV.out)
      generalize wrongL b = l at hs1 HWR
      generalize wrongK b = k at hs2 HWR
      generalize wrongE b = E at HWR
      have HL4 := Lib.hid hs1
      have HK4 := Lib.hid hs2
      obtain ⟨B1, m1, q1, rfl, hm1, -, -⟩ := hs1.form
      obtain ⟨B2, m2, q2, rfl, hm2, -, -⟩ := hs2.form
      clear hs1 hs2
      obtain ⟨y0, y1, y2, y3, y4, y5, yl⟩ := S4.out.cells
      go_wp2_with fail
      clear y0 y1 y2 y3 y4 y5 yl
      refine (some_any b j1 j2 _ _ _ (by have := HBD.out.nd; omega) (by have := HBD.out.nw; omega) S4.out.d S4.out.w HJ.out.1 HJ.out.2).mono ?_
      rintro e w5 ⟨⟨u1, u2, rfl, hs1, hs2⟩, hE⟩
      have S5 := Lib.hid (S4.out.ext hE)
      have HL5 := Lib.hid (HL4.out.ext hE)
      have HK5 := Lib.hid (HK4.out.ext hE); clear S4 HL4 HK4 hE
      have HMS := Lib.hid (someD_sub b j1)
      have HNS := Lib.hid (someW_sub b j2)
      have HML := Lib.hid (show (someD b j1).length ≤ 10 ∧ (someW b j2).length ≤ 8 by
        have h1 := HMS.out.length_le
        have h2 := HNS.out.length_le
        rw [List.length_map] at h1 h2
        have := HBD.out.nd; have := HBD.out.nw
        omega)
      generalize someD b j1 = m at hs1 HMS HML
      generalize someW b j2 = nn at hs2 HNS HML
      have HM5 := Lib.hid hs1
      have HN5 := Lib.hid hs2
      obtain ⟨B3, m3, q3, rfl, hm3, -, -⟩ := hs1.form
      obtain ⟨B4, m4, q4, rfl, hm4, -, -⟩ := hs2.form
      clear hs1 hs2
      obtain ⟨y0, y1, y2, y3, y4, y5, yl⟩ := S5.out.cells
      go_wp2_with fail
      clear y0 y1 y2 y3 y4 y5 yl
      refine (strike_any b l k _ _ _ _ _ S5.out.t S5.out.d S5.out.w HL5.out HK5.out (by have := HWR.out.lenl; omega) (by have := HWR.out.lenk; omega)).mono ?_
      rintro e w6 ⟨⟨v, rfl, hTV⟩, hE⟩
      rw [(strike_ok HV.out HWR.out.subl HWR.out.subk).1]
      rw [(strike_ok HV.out HWR.out.subl HWR.out.subk).2] at hTV
      obtain ⟨A6, n6, c6, A7, n7, c7, rfl, hX⟩ := strike_box hTV S5.out.t hE
      have X7 := Lib.hid hX
      have hEA := hE.trans (Ext.al w6 (.cells #[.int .i64 (withB b l k).id, .int .i64 (withB b l k).layers, .int .i64 (withB b l k).dry.lo, .int .i64 (withB b l k).dry.hi, .slice A6 n6 c6, .slice A7 n7 c7] 27))
      have S7 := Lib.hid (S5.out.ext hEA)
      have HL7 := Lib.hid (HL5.out.ext hEA)
      have HK7 := Lib.hid (HK5.out.ext hEA)
      have HM7 := Lib.hid (HM5.out.ext hEA)
      have HN7 := Lib.hid (HN5.out.ext hEA)
      clear hTV hX hE hEA S5 HL5 HK5 HM5 HN5
      obtain ⟨y0, y1, y2, y3, y4, y5, yl⟩ := S7.out.cells
      dsimp only [valB]
      go_wp2_with fail
      clear y0 y1 y2 y3 y4 y5 yl
      have XP := X7.out.p.lt
      generalize w6.alloc _ = w7 at *
      have HXP := Lib.hid XP
      clear XP
      refine (strike_any b m nn _ _ _ _ _ S7.out.t S7.out.d S7.out.w HM7.out HN7.out (by have := HML.out; omega) (by have := HML.out; omega)).mono ?_
      rintro e w8 ⟨⟨v, rfl, hTV⟩, hE⟩
      rw [(strike_ok HV.out HMS.out HNS.out).1]
      rw [(strike_ok HV.out HMS.out HNS.out).2] at hTV
      obtain ⟨A8, n8, c8, A9, n9, c9, rfl, hX⟩ := strike_box hTV S7.out.t hE
      have X9 := Lib.hid hX
      have hEA := hE.trans (Ext.al w8 (.cells #[.int .i64 (withB b m nn).id, .int .i64 (withB b m nn).layers, .int .i64 (withB b m nn).dry.lo, .int .i64 (withB b m nn).dry.hi, .slice A8 n8 c8, .slice A9 n9 c9] 27))
      have S9 := Lib.hid (S7.out.ext hEA)
      have Y9 := Lib.hid (X7.out.ext hEA)
      have X8 := Lib.hid (X7.out.ext hE)
      have HL9 := Lib.hid (HL7.out.ext hEA)
      have HK9 := Lib.hid (HK7.out.ext hEA)
      have HM9 := Lib.hid (HM7.out.ext hEA)
      have HN9 := Lib.hid (HN7.out.ext hEA)
      clear hTV hX hE S7 HL7 HK7 HM7 HN7
      have HEA := Lib.hid hEA
      clear hEA
      obtain ⟨y0, y1, y2, y3, y4, y5, yl⟩ := X8.out.cells
      dsimp only [valB]
      go_wp2_with fail
      clear y0 y1 y2 y3 y4 y5 yl X8
      have hx9 := X9.out.p.lt
      generalize w8.alloc _ = w9 at *
      have HX9 := Lib.hid hx9
      clear hx9
      refine (can_any (withB b l k) _ _ _ Y9.out.t Y9.out.d Y9.out.w).mono ?_
      rintro e w10 ⟨rfl, hE⟩
      rw [withB_ok HV.out l k]
      have S10 := Lib.hid (S9.out.ext hE)
      have X10 := Lib.hid (X9.out.ext hE)
      have HL10 := Lib.hid (HL9.out.ext hE)
      have HK10 := Lib.hid (HK9.out.ext hE)
      have HM10 := Lib.hid (HM9.out.ext hE)
      have HN10 := Lib.hid (HN9.out.ext hE)
      clear hE S9 X9 Y9 HL9 HK9 HM9 HN9
      simp only [Bool.true_and, errB, if_true]
      obtain ⟨y0, y1, y2, y3, y4, y5, yl⟩ := X10.out.cells
      go_wp2_with fail
      clear y0 y1 y2 y3 y4 y5 yl
      refine (can_any (withB b m nn) _ _ _ X10.out.t X10.out.d X10.out.w).mono ?_
      rintro e w11 ⟨rfl, hE⟩
      rw [withB_ok HV.out m nn]
      have S11 := Lib.hid (S10.out.ext hE)
      have HL11 := Lib.hid (HL10.out.ext hE)
      have HK11 := Lib.hid (HK10.out.ext hE)
      have HM11 := Lib.hid (HM10.out.ext hE)
      have HN11 := Lib.hid (HN10.out.ext hE)
      clear hE S10 X10 HL10 HK10 HM10 HN10
      simp only [Bool.true_and, errB, if_true]
      have hm1' : m1 = l.length := hm1.out
      have hm2' : m2 = k.length := hm2.out
      have hm3' : m3 = m.length := hm3.out
      have hm4' : m4 = nn.length := hm4.out
      rcases HWR.out.err with rfl | rfl
      · obtain ⟨ha, hyes⟩ := HWR.out.yes rfl
        have HY := Lib.hid (hyes m nn HMS.out HNS.out)
        have i1 : ¬ 3 < m1 := by have := HWR.out.lenl; omega
        have i2 : ¬ 3 < m2 := by have := HWR.out.lenk; omega
        have i3 : m1 ≤ 3 := by omega
        have i4 : m2 ≤ 3 := by omega
        have i5 : (m1 : Int) ≤ 3 := by omega
        have i6 : (m2 : Int) ≤ 3 := by omega
        rw [ha]
        clear ha hyes hm1' hm2' hm3' hm4'
        cases hc : okB (withB b m nn) with
        | false =>
          clear hc
          go_wp2
          go_ret
          exact ⟨rfl, S11.out.e⟩
        | true =>
          have HB := Lib.hid (HY.out hc)
          clear hc HY
          go_wp2_with fail
          refine (before_any m l _ _ _ HM11.out HL11.out).mono ?_
          rintro e w12 ⟨rfl, hE⟩
          rw [HB.out.1]
          have S12 := Lib.hid (S11.out.ext hE)
          have HN12 := Lib.hid (HN11.out.ext hE)
          have HK12 := Lib.hid (HK11.out.ext hE)
          clear hE S11
          go_wp2_with fail
          refine (before_any nn k _ _ _ HN12.out HK12.out).mono ?_
          rintro e w13 ⟨rfl, hE⟩
          rw [HB.out.2]
          go_wp2
          go_ret
          exact ⟨rfl, S12.out.e.trans hE⟩
      · obtain ⟨hl0, hk0, ha, hno⟩ := HWR.out.no rfl
        have HNO := Lib.hid (hno m nn HMS.out HNS.out)
        subst hl0 hk0
        obtain rfl : m1 = 0 := hm1'
        obtain rfl : m2 = 0 := hm2'
        rw [ha]
        cases hc : okB (withB b m nn) with
        | false =>
          clear hc ha hno hm3' hm4'
          go_wp2
          go_ret
          exact ⟨rfl, S11.out.e⟩
        | true =>
          have h3 := HNO.out hc
          rw [← hm3', ← hm4'] at h3
          clear hc ha hno hm3' hm4'
          by_cases h4 : 3 < m3
          · have h5 : (3 : Int) < (m3 : Int) := by omega
            go_wp2
            go_ret
            exact ⟨rfl, S11.out.e⟩
          · have h6 : 3 < m4 := by omega
            have h5 : (3 : Int) < (m4 : Int) := by omega
            clear h3
            go_wp2
            go_ret
            exact ⟨rfl, S11.out.e⟩
end Go.Proofs.YtdlipbobfgdleaaDoor
