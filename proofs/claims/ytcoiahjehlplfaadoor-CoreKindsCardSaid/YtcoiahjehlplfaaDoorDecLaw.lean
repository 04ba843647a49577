/- The plain law: Decide. -/
import Derived.Test.YtcoiahjehlplfaaDoorAskLaw
namespace Go.Proofs.YtcoiahjehlplfaaDoor
open Go.RowKit Go.Shelf
set_option linter.unusedSimpArgs false

/-- What a truth shows at some layers. -/
def restr (l : List Int) (t : List Int) : List Int := l.foldl (fun s i => s.set i.toNat (t[i.toNat]?.getD 0)) [0, 0, 0, 0, 0]
theorem restr_fold (t : List Int) (j : Nat) : ∀ (l s : List Int), (∀ i ∈ l, 0 ≤ i) → j < s.length →
    (l.foldl (fun s i => s.set i.toNat (t[i.toNat]?.getD 0)) s)[j]? = if (j : Int) ∈ l then some (t[j]?.getD 0) else s[j]?
  | [], s, _, _ => by simp
  | i :: l, s, h, hj => by
    rw [List.foldl_cons, restr_fold t j l _ (fun k hk => h k (List.mem_cons_of_mem _ hk)) (by rw [List.length_set]; exact hj)]
    have hi := h i (List.mem_cons_self ..)
    by_cases hm : (j : Int) ∈ l
    · rw [if_pos hm, if_pos (List.mem_cons_of_mem _ hm)]
    · rw [if_neg hm]
      by_cases hij : i = (j : Int)
      · subst hij
        rw [if_pos (List.mem_cons_self ..), List.getElem?_set]
        simp [hj]
      · rw [if_neg (by simp [hm, Ne.symm hij]), List.getElem?_set, if_neg (by omega)]
theorem restr_len (l t : List Int) : (restr l t).length = 5 := by
  unfold restr
  have : ∀ (l s : List Int), s.length = 5 → (l.foldl (fun s i => s.set i.toNat (t[i.toNat]?.getD 0)) s).length = 5 := by
    intro l
    induction l with
    | nil => intro s h; exact h
    | cons i l ih => intro s h; rw [List.foldl_cons]; exact ih _ (by rw [List.length_set]; exact h)
  exact this l _ rfl
theorem restr_at {l : List Int} (h : ∀ i ∈ l, 0 ≤ i) (t : List Int) {j : Nat} (hj : j < 5) : (restr l t)[j]? = some (if (j : Int) ∈ l then t[j]?.getD 0 else 0) := by
  unfold restr
  rw [restr_fold t j l _ h (by simpa using hj), zeros_at j hj]
  split <;> rfl
theorem restr_iff {l : List Int} (h : ∀ i ∈ l, 0 ≤ i ∧ i < 5) (t u : List Int) : restr l t = restr l u ↔ ∀ i ∈ l, t[i.toNat]?.getD 0 = u[i.toNat]?.getD 0 := by
  have h0 : ∀ i ∈ l, 0 ≤ i := fun i hi => (h i hi).1
  constructor
  · intro e i hi
    have hb := h i hi
    have e1 := restr_at h0 t (j := i.toNat) (by omega)
    have e2 := restr_at h0 u (j := i.toNat) (by omega)
    have hm : ((i.toNat : Nat) : Int) ∈ l := by rw [show ((i.toNat : Nat) : Int) = i by omega]; exact hi
    rw [if_pos hm] at e1 e2
    rw [e, e2] at e1
    injection e1 with e1
    exact e1.symm
  · intro e
    apply List.ext_getElem?
    intro j
    by_cases hj : j < 5
    · rw [restr_at h0 t hj, restr_at h0 u hj]
      by_cases hm : (j : Int) ∈ l
      · rw [if_pos hm, if_pos hm]
        have := e _ hm
        simp only [Int.toNat_natCast] at this
        rw [this]
      · rw [if_neg hm, if_neg hm]
    · rw [List.getElem?_eq_none (by rw [restr_len]; omega), List.getElem?_eq_none (by rw [restr_len]; omega)]

/-- Truths that look alike at some layers are of one kind. -/
def consB (l : List Int) (T : List (List Int)) : Bool := decide (∀ t ∈ T, ∀ u ∈ T, restr l t = restr l u → kindL t = kindL u)
theorem consB_iff (l : List Int) (T : List (List Int)) : consB l T = true ↔ ∀ t ∈ T, ∀ u ∈ T, restr l t = restr l u → kindL t = kindL u := by unfold consB; simp

theorem kindsOf_iff (T : List (List Int)) : ((kindsOf T).a = true ↔ ∃ t ∈ T, kindL t = 1) ∧ ((kindsOf T).b = true ↔ ∃ t ∈ T, kindL t = 2) ∧ ((kindsOf T).c = true ↔ ∃ t ∈ T, kindL t = 3) ∧ ((kindsOf T).d = true ↔ ∃ t ∈ T, kindL t = 4) := by
  have key : ∀ (T : List (List Int)) (s : S4), ((T.foldl (fun s l => s.add (kindL l)) s).a = true ↔ s.a = true ∨ ∃ t ∈ T, kindL t = 1) ∧ ((T.foldl (fun s l => s.add (kindL l)) s).b = true ↔ s.b = true ∨ ∃ t ∈ T, kindL t = 2) ∧
      ((T.foldl (fun s l => s.add (kindL l)) s).c = true ↔ s.c = true ∨ ∃ t ∈ T, kindL t = 3) ∧ ((T.foldl (fun s l => s.add (kindL l)) s).d = true ↔ s.d = true ∨ ∃ t ∈ T, kindL t = 4) := by
    intro T
    induction T with
    | nil => intro s; simp
    | cons t T ih =>
      intro s
      rw [List.foldl_cons]
      obtain ⟨h1, h2, h3, h4⟩ := ih (s.add (kindL t))
      rw [h1, h2, h3, h4]
      simp only [S4.add, Bool.or_eq_true, decide_eq_true_eq, List.mem_cons, exists_eq_or_imp, or_assoc, and_self]
  have := key T S4.none
  simpa [kindsOf, S4.none] using this

theorem num_one {T : List (List Int)} (h0 : T ≠ []) : ((kindsOf T).num == 1) = consB [] T := by
  obtain ⟨h1, h2, h3, h4⟩ := kindsOf_iff T
  obtain ⟨t0, ht0⟩ := List.exists_mem_of_ne_nil T h0
  rw [Bool.eq_iff_iff, consB_iff]
  simp only [beq_iff_eq]
  have hr : ∀ t u, (restr [] t = restr [] u → kindL t = kindL u) ↔ kindL t = kindL u := fun t u => by simp [restr]
  simp only [hr]
  generalize kindsOf T = s at *
  obtain ⟨a, b, c, d⟩ := s
  simp only at h1 h2 h3 h4
  constructor
  · intro hn t ht u hu
    have kt := kindL_bd t
    have ku := kindL_bd u
    have ft : ∀ v ∈ T, (kindL v = 1 → a = true) ∧ (kindL v = 2 → b = true) ∧ (kindL v = 3 → c = true) ∧ (kindL v = 4 → d = true) := fun v hv =>
      ⟨fun e => h1.2 ⟨v, hv, e⟩, fun e => h2.2 ⟨v, hv, e⟩, fun e => h3.2 ⟨v, hv, e⟩, fun e => h4.2 ⟨v, hv, e⟩⟩
    obtain ⟨t1, t2, t3, t4⟩ := ft t ht
    obtain ⟨u1, u2, u3, u4⟩ := ft u hu
    rcases four kt.1 kt.2 with e | e | e | e <;> rcases four ku.1 ku.2 with e' | e' | e' | e' <;> first
      | (rw [e, e']; done)
      | (exfalso; cases a <;> cases b <;> cases c <;> cases d <;> simp [S4.num] at hn <;> simp_all)
  · intro hall
    have k0 := kindL_bd t0
    have one : ∀ v ∈ T, kindL v = kindL t0 := fun v hv => hall v hv t0 ht0
    have ha : a = decide (kindL t0 = 1) := by
      rw [Bool.eq_iff_iff, h1]; simp; exact ⟨fun ⟨v, hv, e⟩ => by rw [← one v hv]; exact e, fun e => ⟨t0, ht0, e⟩⟩
    have hb : b = decide (kindL t0 = 2) := by
      rw [Bool.eq_iff_iff, h2]; simp; exact ⟨fun ⟨v, hv, e⟩ => by rw [← one v hv]; exact e, fun e => ⟨t0, ht0, e⟩⟩
    have hc : c = decide (kindL t0 = 3) := by
      rw [Bool.eq_iff_iff, h3]; simp; exact ⟨fun ⟨v, hv, e⟩ => by rw [← one v hv]; exact e, fun e => ⟨t0, ht0, e⟩⟩
    have hd : d = decide (kindL t0 = 4) := by
      rw [Bool.eq_iff_iff, h4]; simp; exact ⟨fun ⟨v, hv, e⟩ => by rw [← one v hv]; exact e, fun e => ⟨t0, ht0, e⟩⟩
    subst ha hb hc hd
    rcases four k0.1 k0.2 with e | e | e | e <;> rw [e] <;> decide

theorem gTo_mem (s : Span) (n : Int) : ∀ k : Nat, n ∈ gTo s 0 k ↔ s.lo ≤ n ∧ n < s.lo + (k : Int)
  | 0 => by unfold gTo; simp
  | k + 1 => by
    rw [gTo_succ, if_pos (by simp), List.mem_append, gTo_mem s n k, List.mem_singleton]
    omega
theorem grades_mem (s : Span) (n : Int) : n ∈ gradesOf s 0 ↔ s.lo ≤ n ∧ n ≤ s.hi := by
  unfold gradesOf
  rw [gTo_mem]
  omega
theorem truthsG_mem : ∀ (G : List (List Int)) (t : List Int), t ∈ truthsG G ↔ t.length = G.length ∧ ∀ (i : Nat) g, G[i]? = some g → ∃ n ∈ g, t[i]? = some n
  | [], t => by
    simp [truthsG]
  | g :: G, t => by
    unfold truthsG
    simp only [List.mem_flatMap, List.mem_map]
    constructor
    · rintro ⟨n, hn, u, hu, rfl⟩
      obtain ⟨h1, h2⟩ := (truthsG_mem G u).1 hu
      refine ⟨by simp [h1], fun i g' hi => ?_⟩
      cases i with
      | zero => simp at hi; subst hi; exact ⟨n, hn, by simp⟩
      | succ i => simp at hi; simpa using h2 i g' hi
    · rintro ⟨h1, h2⟩
      obtain ⟨n, hn, h3⟩ := h2 0 g rfl
      match t, h1 with
      | m :: u, h1 =>
        simp at h3
        subst h3
        refine ⟨m, hn, u, (truthsG_mem G u).2 ⟨by simpa using h1, fun i g' hi => ?_⟩, rfl⟩
        simpa using h2 (i + 1) g' (by simpa using hi)
theorem truths_mem {sp : List Span} (h5 : sp.length ≤ 5) (t : List Int) : t ∈ truthsL (sp.zip [0, 0, 0, 0, 0]) ↔ t.length = sp.length ∧ ∀ (i : Nat) x, sp[i]? = some x → ∃ n, (x.lo ≤ n ∧ n ≤ x.hi) ∧ t[i]? = some n := by
  rw [truthsL_G, truthsG_mem, List.length_map, List.length_zip]
  have hmin : min sp.length ([0, 0, 0, 0, 0] : List Int).length = sp.length := by simp; omega
  rw [hmin]
  refine and_congr_right fun hl => ?_
  constructor
  · intro h i x hx
    have hi : i < sp.length := (List.getElem?_eq_some_iff.1 hx).1
    have e : (sp.zip ([0, 0, 0, 0, 0] : List Int))[i]? = some (x, 0) := by rw [List.getElem?_zip_eq_some]; exact ⟨hx, zeros_at i (by omega)⟩
    obtain ⟨n, hn, hn2⟩ := h i (gradesOf x 0) (by rw [List.getElem?_map, e]; rfl)
    exact ⟨n, (grades_mem x n).1 hn, hn2⟩
  · intro h i g hg
    rw [List.getElem?_map] at hg
    cases e : (sp.zip ([0, 0, 0, 0, 0] : List Int))[i]? with
    | none => rw [e] at hg; cases hg
    | some y =>
      rw [e] at hg
      obtain ⟨hx, hz⟩ := List.getElem?_zip_eq_some.1 e
      have hi : i < sp.length := (List.getElem?_eq_some_iff.1 hx).1
      rw [zeros_at i (by omega)] at hz
      injection hz with hz
      simp only [Option.map_some] at hg
      injection hg with hg
      obtain ⟨n, hn, hn2⟩ := h i y.1 hx
      refine ⟨n, ?_, hn2⟩
      rw [← hg, ← hz]
      exact (grades_mem y.1 n).2 hn
theorem truths_ne {sp : List Span} (h5 : sp.length ≤ 5) (hb : ∀ x ∈ sp, x.lo ≤ x.hi) : truthsL (sp.zip [0, 0, 0, 0, 0]) ≠ [] := by
  have : sp.map (·.lo) ∈ truthsL (sp.zip [0, 0, 0, 0, 0]) := (truths_mem h5 _).2 ⟨by simp, fun i x hx => ⟨x.lo, ⟨by omega, hb x (List.mem_of_getElem? hx)⟩, by rw [List.getElem?_map, hx]; rfl⟩⟩
  intro e
  rw [e] at this
  cases this

/-- All numbers of a span. -/
def rangeS (x : Span) : List Int := (List.range (x.hi - x.lo + 1).toNat).map fun (q : Nat) => x.lo + (q : Int)
theorem rangeS_mem (x : Span) (n : Int) : n ∈ rangeS x ↔ x.lo ≤ n ∧ n ≤ x.hi := by
  unfold rangeS
  simp only [List.mem_map, List.mem_range]
  constructor
  · rintro ⟨q, hq, rfl⟩; omega
  · intro h; exact ⟨(n - x.lo).toNat, by omega, by omega⟩
/-- As the reference decides. -/
def decR (sp : List Span) : List Int → Bool
  | [] => (rk S4.none (exts [] (zOf sp))).num == 1
  | i :: l => match sp[i.toNat]? with
    | some x => (rangeS x).all fun n => decR (sp.set i.toNat ⟨n, n⟩) l
    | none => true

theorem set_mem {sp : List Span} (h5 : sp.length ≤ 5) {i : Nat} {x : Span} (hx : sp[i]? = some x) {n : Int} (hn : x.lo ≤ n ∧ n ≤ x.hi) (t : List Int) :
    t ∈ truthsL ((sp.set i ⟨n, n⟩).zip [0, 0, 0, 0, 0]) ↔ t ∈ truthsL (sp.zip [0, 0, 0, 0, 0]) ∧ t[i]? = some n := by
  have hi : i < sp.length := (List.getElem?_eq_some_iff.1 hx).1
  rw [truths_mem (by rw [List.length_set]; exact h5), truths_mem h5, List.length_set]
  constructor
  · rintro ⟨h1, h2⟩
    obtain ⟨m, hm, hm2⟩ := h2 i ⟨n, n⟩ (by rw [List.getElem?_set, if_pos rfl, if_pos hi])
    dsimp only at hm
    obtain rfl : m = n := by omega
    refine ⟨⟨h1, fun k y hy => ?_⟩, hm2⟩
    by_cases hk : i = k
    · subst hk
      rw [hx] at hy
      injection hy with hy
      subst hy
      exact ⟨_, hn, hm2⟩
    · exact h2 k y (by rw [List.getElem?_set, if_neg hk]; exact hy)
  · rintro ⟨⟨h1, h2⟩, h3⟩
    refine ⟨h1, fun k y hy => ?_⟩
    rw [List.getElem?_set] at hy
    by_cases hk : i = k
    · subst hk
      rw [if_pos rfl, if_pos hi] at hy
      injection hy with hy
      subst hy
      exact ⟨n, ⟨Int.le_refl _, Int.le_refl _⟩, h3⟩
    · rw [if_neg hk] at hy
      exact h2 k y hy

theorem decR_eq : ∀ (l : List Int) (sp : List Span), sp.length ≤ 5 → 0 < sp.length → (∀ x ∈ sp, 1 ≤ x.lo ∧ x.lo ≤ x.hi ∧ x.hi ≤ 9) → (∀ i ∈ l, 0 ≤ i ∧ i < (sp.length : Int)) →
    decR sp l = consB l (truthsL (sp.zip [0, 0, 0, 0, 0]))
  | [], sp, h5, h0, hb, _ => by
    unfold decR
    rw [rk_eq h5 h0 (fun x hx => by have := hb x hx; omega)]
    exact num_one (truths_ne h5 fun x hx => (hb x hx).2.1)
  | i :: l, sp, h5, h0, hb, hl => by
    have hi := hl i (List.mem_cons_self ..)
    have hl' : ∀ k ∈ l, 0 ≤ k ∧ k < (sp.length : Int) := fun k hk => hl k (List.mem_cons_of_mem _ hk)
    have h5' : ∀ k ∈ l, 0 ≤ k ∧ k < 5 := fun k hk => by have := hl' k hk; omega
    have h5c : ∀ k ∈ i :: l, 0 ≤ k ∧ k < 5 := fun k hk => by have := hl k hk; omega
    obtain ⟨x, hx⟩ : ∃ x, sp[i.toNat]? = some x := ⟨_, List.getElem?_eq_getElem (by omega)⟩
    have hxb := hb x (List.mem_of_getElem? hx)
    unfold decR
    rw [hx]
    simp only
    rw [Bool.eq_iff_iff, List.all_eq_true, consB_iff]
    have ih : ∀ n ∈ rangeS x, decR (sp.set i.toNat ⟨n, n⟩) l = consB l (truthsL ((sp.set i.toNat ⟨n, n⟩).zip [0, 0, 0, 0, 0])) := fun n hn => by
      have hn := (rangeS_mem x n).1 hn
      exact decR_eq l _ (by rw [List.length_set]; exact h5) (by rw [List.length_set]; exact h0) (fun y hy => by
        rcases List.mem_or_eq_of_mem_set hy with hy | rfl
        · exact hb y hy
        · dsimp only; omega) (by rw [List.length_set]; exact hl')
    constructor
    · intro h t ht u hu e
      have e2 := (restr_iff h5c t u).1 e
      obtain ⟨_, h2⟩ := (truths_mem h5 t).1 ht
      obtain ⟨_, h3⟩ := (truths_mem h5 u).1 hu
      obtain ⟨n, hn, htn⟩ := h2 _ x hx
      obtain ⟨m, hm, hum⟩ := h3 _ x hx
      have e3 := e2 i (List.mem_cons_self ..)
      rw [htn, hum] at e3
      simp at e3
      subst e3
      have hd := h n ((rangeS_mem x n).2 hn)
      rw [ih n ((rangeS_mem x n).2 hn), consB_iff] at hd
      exact hd t ((set_mem h5 hx hn t).2 ⟨ht, htn⟩) u ((set_mem h5 hx hn u).2 ⟨hu, hum⟩) ((restr_iff h5' t u).2 fun k hk => e2 k (List.mem_cons_of_mem _ hk))
    · intro h n hn
      rw [ih n hn, consB_iff]
      have hn := (rangeS_mem x n).1 hn
      intro t ht u hu e
      obtain ⟨ht1, ht2⟩ := (set_mem h5 hx hn t).1 ht
      obtain ⟨hu1, hu2⟩ := (set_mem h5 hx hn u).1 hu
      refine h t ht1 u hu1 ((restr_iff h5c t u).2 fun k hk => ?_)
      rcases List.mem_cons.1 hk with rfl | hk
      · rw [ht2, hu2]
      · exact (restr_iff h5' t u).1 e k hk

/-! lists of numbers -/
def combos : Nat → List Int → List (List Int)
  | 0, _ => [[]]
  | _ + 1, [] => []
  | n + 1, x :: r => (combos n r).map (x :: ·) ++ combos (n + 1) r
def listsL (all : List Int) (most : Nat) : List (List Int) := (List.range (min most all.length + 1)).flatMap fun n => combos n all
def ints (n : Nat) : List Int := (List.range n).map fun (i : Nat) => (i : Int)
def setOf (n s : Nat) : List Int := ((List.range n).filter fun i => s / 2 ^ i % 2 == 1).map fun (i : Nat) => (i : Int)
def setsL (n : Nat) : List (List Int) := (List.range (2 ^ n)).map (setOf n)
def lexL : List Int → List Int → Bool
  | x :: a, y :: b => if x ≠ y then decide (x < y) else lexL a b
  | _, _ => false
def beforeL (a b : List Int) : Bool := if a.length ≠ b.length then decide (a.length < b.length) else lexL a b
theorem lex_trans : ∀ {a b c : List Int}, lexL a b = true → lexL b c = true → lexL a c = true
  | x :: a, y :: b, z :: c, h1, h2 => by
    unfold lexL at h1 h2 ⊢
    by_cases hxy : x = y
    · subst hxy
      simp only [ne_eq, not_true, if_false] at h1
      by_cases hxz : x = z
      · subst hxz
        simp only [ne_eq, not_true, if_false] at h2 ⊢
        exact lex_trans h1 h2
      · simp only [ne_eq, hxz, not_false_eq_true, if_true] at h2 ⊢
        exact h2
    · simp only [ne_eq, hxy, not_false_eq_true, if_true, decide_eq_true_eq] at h1
      by_cases hyz : y = z
      · subst hyz
        simp only [ne_eq, hxy, not_false_eq_true, if_true, decide_eq_true_eq]
        exact h1
      · simp only [ne_eq, hyz, not_false_eq_true, if_true, decide_eq_true_eq] at h2
        rw [if_pos (by omega)]
        simp only [decide_eq_true_eq]
        omega
  | [], _, _, h1, _ => by simp [lexL] at h1
  | _ :: _, [], _, h1, _ => by simp [lexL] at h1
  | _ :: _, _ :: _, [], _, h2 => by simp [lexL] at h2
theorem before_trans {a b c : List Int} (h1 : beforeL a b = true) (h2 : beforeL b c = true) : beforeL a c = true := by
  unfold beforeL at *
  split at h1
  · simp only [decide_eq_true_eq] at h1
    split at h2
    · simp only [decide_eq_true_eq] at h2
      rw [if_pos (by omega)]; simp; omega
    · rw [if_pos (by omega)]; simp; omega
  · split at h2
    · simp only [decide_eq_true_eq] at h2
      rw [if_pos (by omega)]; simp; omega
    · rw [if_neg (by omega)]; exact lex_trans h1 h2
def pickStep (f : List Int → Bool) (s : List Int × Bool) (l : List Int) : List Int × Bool := if (!s.2 || beforeL l s.1) && f l then (l, true) else s
def pickL (f : List Int → Bool) (L : List (List Int)) : List Int × Bool := L.foldl (pickStep f) ([], false)
theorem pickL_snoc (f : List Int → Bool) (L : List (List Int)) (l : List Int) : pickL f (L ++ [l]) = pickStep f (pickL f L) l := by unfold pickL; rw [List.foldl_append]; rfl
theorem rev_ind {α : Type} {p : List α → Prop} (h0 : p []) (h : ∀ L x, p L → p (L ++ [x])) (L : List α) : p L := by
  have key : ∀ M : List α, p M.reverse := by
    intro M
    induction M with
    | nil => exact h0
    | cons x M ih => rw [List.reverse_cons]; exact h _ _ ih
  have := key L.reverse
  rwa [List.reverse_reverse] at this
theorem pick_spec (f : List Int → Bool) (irr : ∀ l, beforeL l l = false) (L : List (List Int)) : ((pickL f L).2 = true → (pickL f L).1 ∈ L ∧ f (pickL f L).1 = true ∧ ∀ l ∈ L, f l = true → beforeL l (pickL f L).1 = false) ∧ ((pickL f L).2 = false → ∀ l ∈ L, f l = false) := by
  refine rev_ind (p := fun L => ((pickL f L).2 = true → (pickL f L).1 ∈ L ∧ f (pickL f L).1 = true ∧ ∀ l ∈ L, f l = true → beforeL l (pickL f L).1 = false) ∧ ((pickL f L).2 = false → ∀ l ∈ L, f l = false)) (by simp [pickL]) (fun L l ih => ?_) L
  rw [pickL_snoc]
  generalize pickL f L = s at *
  obtain ⟨i1, i2⟩ := ih
  unfold pickStep
  by_cases hc : ((!s.2 || beforeL l s.1) && f l) = true
  · rw [if_pos hc]
    simp only [Bool.and_eq_true, Bool.or_eq_true, Bool.not_eq_true'] at hc
    refine ⟨fun _ => ⟨by simp, hc.2, fun x hx hfx => ?_⟩, fun h => by cases h⟩
    rcases List.mem_append.1 hx with hx | hx
    · rcases hc.1 with hs | hs
      · rw [i2 hs x hx] at hfx; cases hfx
      · cases hs2 : s.2 with
        | false => rw [i2 hs2 x hx] at hfx; cases hfx
        | true =>
          have := (i1 hs2).2.2 x hx hfx
          cases hb : beforeL x l with
          | false => rfl
          | true => rw [before_trans hb hs] at this; cases this
    · simp at hx; subst hx; exact irr _
  · rw [if_neg hc]
    refine ⟨fun h => ?_, fun h x hx => ?_⟩
    · obtain ⟨j1, j2, j3⟩ := i1 h
      refine ⟨List.mem_append_left _ j1, j2, fun x hx hfx => ?_⟩
      rcases List.mem_append.1 hx with hx | hx
      · exact j3 x hx hfx
      · simp at hx; subst hx
        rw [h] at hc
        simp only [hfx, Bool.not_true, Bool.false_or, Bool.and_true, Bool.not_eq_true] at hc
        exact hc
    · rcases List.mem_append.1 hx with hx | hx
      · exact i2 h x hx
      · simp at hx; subst hx
        rw [h] at hc
        simp only [Bool.not_false, Bool.true_or, Bool.true_and, Bool.not_eq_true] at hc
        exact hc
theorem lex_irr : ∀ l : List Int, lexL l l = false
  | [] => rfl
  | x :: l => by unfold lexL; simp; exact lex_irr l
theorem before_irr (l : List Int) : beforeL l l = false := by unfold beforeL; simp; exact lex_irr l
theorem pick_first {f : List Int → Bool} {L M : List (List Int)} (h1 : ∀ x ∈ L, x ∈ M) (h2 : ∀ x ∈ M, x ∈ L) (hs : M.Pairwise fun a b => beforeL a b = true) : (pickL f L).1 = (M.find? f).getD [] := by
  obtain ⟨p1, p2⟩ := pick_spec f before_irr L
  cases hr : (pickL f L).2 with
  | false =>
    have := p2 hr
    have hn : M.find? f = none := List.find?_eq_none.2 fun x hx => by rw [this x (h2 x hx)]; simp
    rw [hn]
    have key : ∀ L : List (List Int), (pickL f L).2 = false → (pickL f L).1 = [] := rev_ind (fun _ => rfl) fun L l ih => by
      rw [pickL_snoc]
      unfold pickStep
      split
      · intro h; cases h
      · exact ih
    exact key L hr
  | true =>
    obtain ⟨q1, q2, q3⟩ := p1 hr
    cases hf : M.find? f with
    | none => have := List.find?_eq_none.1 hf _ (h1 _ q1); rw [q2] at this; simp at this
    | some x =>
      obtain ⟨hx, m1, m2, rfl, has⟩ := List.find?_eq_some_iff_append.1 hf
      have hm := h1 _ q1
      rcases List.mem_append.1 hm with hm | hm
      · have := has _ hm; rw [q2] at this; simp at this
      · rcases List.mem_cons.1 hm with hm | hm
        · rw [hm]; rfl
        · have hp := (List.pairwise_cons.1 (List.pairwise_append.1 hs).2.1).1 _ hm
          rw [q3 x (h2 x (by simp)) hx] at hp
          cases hp
set_option maxRecDepth 100000 in
theorem sets_lists (n : Nat) (h0 : 0 < n) (h5 : n ≤ 5) : (∀ x ∈ setsL n, x ∈ listsL (ints n) n) ∧ (∀ x ∈ listsL (ints n) n, x ∈ setsL n) ∧ (listsL (ints n) n).Pairwise fun a b => beforeL a b = true := by
  obtain rfl | rfl | rfl | rfl | rfl : n = 1 ∨ n = 2 ∨ n = 3 ∨ n = 4 ∨ n = 5 := by omega
  all_goals decide +kernel
theorem combos_mem : ∀ {n : Nat} {all x : List Int}, x ∈ combos n all → ∀ i ∈ x, i ∈ all
  | 0, _, x, h, i, hi => by simp [combos] at h; subst h; cases hi
  | n + 1, [], x, h, i, hi => by simp [combos] at h
  | n + 1, y :: r, x, h, i, hi => by
    unfold combos at h
    rcases List.mem_append.1 h with h | h
    · obtain ⟨u, hu, rfl⟩ := List.mem_map.1 h
      rcases List.mem_cons.1 hi with rfl | hi
      · exact List.mem_cons_self ..
      · exact List.mem_cons_of_mem _ (combos_mem hu i hi)
    · exact List.mem_cons_of_mem _ (combos_mem h i hi)
theorem combos_len : ∀ {n : Nat} {all x : List Int}, x ∈ combos n all → x.length = n
  | 0, _, x, h => by simp [combos] at h; subst h; rfl
  | n + 1, [], x, h => by simp [combos] at h
  | n + 1, y :: r, x, h => by
    unfold combos at h
    rcases List.mem_append.1 h with h | h
    · obtain ⟨u, hu, rfl⟩ := List.mem_map.1 h
      simp [combos_len hu]
    · exact combos_len h
theorem lists_mem {all x : List Int} {most : Nat} (h : x ∈ listsL all most) : (∀ i ∈ x, i ∈ all) ∧ x.length ≤ most ∧ x.length ≤ all.length := by
  unfold listsL at h
  obtain ⟨n, hn, hx⟩ := List.mem_flatMap.1 h
  have := combos_len hx
  simp at hn
  exact ⟨combos_mem hx, by omega, by omega⟩
theorem ints_mem {n : Nat} {i : Int} (h : i ∈ ints n) : 0 ≤ i ∧ i < (n : Int) := by
  unfold ints at h
  simp only [List.mem_map, List.mem_range] at h
  obtain ⟨j, hj, rfl⟩ := h
  omega
theorem find_congr {α : Type} {f g : α → Bool} : ∀ {L : List α}, (∀ x ∈ L, f x = g x) → L.find? f = L.find? g
  | [], _ => rfl
  | x :: L, h => by
    rw [List.find?_cons, List.find?_cons, h x (List.mem_cons_self ..), find_congr fun y hy => h y (List.mem_cons_of_mem _ hy)]
/-- **Decide: the two answers are one.** -/
theorem decide_eq {sp : List Span} (h5 : sp.length ≤ 5) (h0 : 0 < sp.length) (hb : ∀ x ∈ sp, 1 ≤ x.lo ∧ x.lo ≤ x.hi ∧ x.hi ≤ 9) :
    (pickL (decR sp) (setsL sp.length)).1 = ((listsL (ints sp.length) sp.length).find? fun l => consB l (truthsL (sp.zip [0, 0, 0, 0, 0]))).getD [] := by
  obtain ⟨h1, h2, h3⟩ := sets_lists sp.length h0 h5
  rw [pick_first h1 h2 h3]
  congr 1
  refine find_congr fun l hl => ?_
  exact decR_eq l sp h5 h0 hb fun i hi => ints_mem ((lists_mem hl).1 i hi)
end Go.Proofs.YtcoiahjehlplfaaDoor
