/- What moves by sales, in plain words: what it costs, what each house gets, the steps by which it can be changed; that no other costs less, if there are numbers that prove it. -/
import Derived.Test.YtafdbgielmlihaaDoorPkChLeastCardA
namespace Go.Proofs.YtafdbgielmlihaaDoor

/-- A sale: from whom to whom, how many bales at most, what each costs. -/
structure Sal where
  s : Nat
  b : Nat
  cap : Int
  c : Int
def one (p : Prop) [Decidable p] : Int := if p then 1 else 0
def cost : List Sal → List Int → Int
  | x :: S, y :: m => x.c * y + cost S m
  | _, _ => 0
def net : List Sal → List Int → Nat → Int
  | x :: S, y :: m, v => y * (one (x.b = v) - one (x.s = v)) + net S m v
  | _, _, _ => 0
/-- As many as there are, none of them below 0 or more than can be. -/
def Feas : List Sal → List Int → Prop
  | x :: S, y :: m => (0 ≤ y ∧ y ≤ x.cap) ∧ Feas S m
  | [], [] => True
  | _, _ => False
def caps (S : List Sal) : List Int := S.map (·.cap)
def bump (m : List Int) (i : Nat) (δ : Int) : List Int := m.modify i (· + δ)
/-- The steps: a bale more by a sale, or one fewer. -/
def resArcs : Nat → List Sal → List Int → List Arc
  | i, x :: S, y :: m => (if y < x.cap then [⟨x.s, x.b, x.c, 1 + (i : Int)⟩] else []) ++ ((if 0 < y then [⟨x.b, x.s, -x.c, -1 - (i : Int)⟩] else []) ++ resArcs (i + 1) S m)
  | _, _, _ => []
def fwd (x : Sal) (i : Nat) : Arc := ⟨x.s, x.b, x.c, 1 + (i : Int)⟩
def bwd (x : Sal) (i : Nat) : Arc := ⟨x.b, x.s, -x.c, -1 - (i : Int)⟩
theorem mem_res : ∀ (S : List Sal) (m : List Int) (j : Nat) (a : Arc), a ∈ resArcs j S m ↔ ∃ i x y, S[i]? = some x ∧ m[i]? = some y ∧ ((a = fwd x (j + i) ∧ y < x.cap) ∨ (a = bwd x (j + i) ∧ 0 < y))
  | [], m, j, a => by simp [resArcs]
  | x :: S, [], j, a => by simp [resArcs]
  | x :: S, y :: m, j, a => by
    unfold resArcs
    rw [List.mem_append, List.mem_append, mem_res S m (j + 1) a]
    constructor
    · rintro (h | h | ⟨i, x', y', h1, h2, h3⟩)
      · split at h
        · simp only [List.mem_singleton] at h
          exact ⟨0, x, y, rfl, rfl, .inl ⟨h, by assumption⟩⟩
        · cases h
      · split at h
        · simp only [List.mem_singleton] at h
          exact ⟨0, x, y, rfl, rfl, .inr ⟨h, by assumption⟩⟩
        · cases h
      · refine ⟨i + 1, x', y', by simpa using h1, by simpa using h2, ?_⟩
        rw [show j + (i + 1) = j + 1 + i by omega]
        exact h3
    · rintro ⟨i, x', y', h1, h2, h3⟩
      cases i with
      | zero =>
        simp at h1 h2
        subst h1 h2
        rcases h3 with ⟨h3, h4⟩ | ⟨h3, h4⟩
        · left; rw [if_pos h4]; simpa [fwd] using h3
        · right; left; rw [if_pos h4]; simpa [bwd] using h3
      | succ i =>
        right; right
        refine ⟨i, x', y', by simpa using h1, by simpa using h2, ?_⟩
        rw [show j + (i + 1) = j + 1 + i by omega] at h3
        exact h3
theorem cost_bump : ∀ (S : List Sal) (m : List Int) (i : Nat) (δ : Int) (x : Sal), S[i]? = some x → i < m.length → cost S (bump m i δ) = cost S m + x.c * δ
  | [], m, i, δ, x, h, _ => by simp at h
  | z :: S, [], i, δ, x, _, h => by simp at h
  | z :: S, y :: m, 0, δ, x, h, _ => by
    simp at h; subst h
    simp only [bump, List.modify_zero_cons, cost, Int.mul_add]
    omega
  | z :: S, y :: m, i + 1, δ, x, h, hl => by
    have := cost_bump S m i δ x (by simpa using h) (by simpa using hl)
    simp only [bump, List.modify_succ_cons, cost] at this ⊢
    omega
theorem net_bump (v : Nat) : ∀ (S : List Sal) (m : List Int) (i : Nat) (δ : Int) (x : Sal), S[i]? = some x → i < m.length → net S (bump m i δ) v = net S m v + δ * (one (x.b = v) - one (x.s = v))
  | [], m, i, δ, x, h, _ => by simp at h
  | z :: S, [], i, δ, x, _, h => by simp at h
  | z :: S, y :: m, 0, δ, x, h, _ => by
    simp at h; subst h
    simp only [bump, List.modify_zero_cons, net, Int.add_mul]
    omega
  | z :: S, y :: m, i + 1, δ, x, h, hl => by
    have := net_bump v S m i δ x (by simpa using h) (by simpa using hl)
    simp only [bump, List.modify_succ_cons, net] at this ⊢
    omega
theorem bump_len (m : List Int) (i : Nat) (δ : Int) : (bump m i δ).length = m.length := by simp [bump]
theorem bump_get (m : List Int) (i : Nat) (δ : Int) (j : Nat) : (bump m i δ)[j]? = (m[j]?).map (fun y => if i = j then y + δ else y) := by
  unfold bump
  rw [List.getElem?_modify]
  split <;> rfl
/-- A step is taken. -/
def stepM (m : List Int) (a : Arc) : List Int := if 0 < a.tag then bump m (a.tag - 1).toNat 1 else bump m (-1 - a.tag).toNat (-1)
/-- The arc is a step by a sale of the list. -/
def OfS (S : List Sal) (a : Arc) : Prop := ∃ i x, S[i]? = some x ∧ (a = fwd x i ∨ a = bwd x i)
theorem ofS_res {S : List Sal} {m : List Int} {a : Arc} (h : a ∈ resArcs 0 S m) : OfS S a := by
  obtain ⟨i, x, y, h1, _, h3⟩ := (mem_res S m 0 a).1 h
  rw [Nat.zero_add] at h3
  rcases h3 with ⟨h3, _⟩ | ⟨h3, _⟩
  · exact ⟨i, x, h1, .inl h3⟩
  · exact ⟨i, x, h1, .inr h3⟩
theorem step_fwd (m : List Int) (x : Sal) (i : Nat) : stepM m (fwd x i) = bump m i 1 := by
  unfold stepM fwd
  simp only
  rw [if_pos (by omega), show (1 + (i : Int) - 1).toNat = i by omega]
theorem step_bwd (m : List Int) (x : Sal) (i : Nat) : stepM m (bwd x i) = bump m i (-1) := by
  unfold stepM bwd
  simp only
  rw [if_neg (by omega), show (-1 - (-1 - (i : Int))).toNat = i by omega]
theorem step_len {S : List Sal} {a : Arc} (m : List Int) (h : OfS S a) : (stepM m a).length = m.length := by
  obtain ⟨i, x, _, rfl | rfl⟩ := h
  · rw [step_fwd, bump_len]
  · rw [step_bwd, bump_len]
theorem step_cost {S : List Sal} {a : Arc} {m : List Int} (h : OfS S a) (hl : m.length = S.length) : cost S (stepM m a) = cost S m + a.w := by
  obtain ⟨i, x, h1, rfl | rfl⟩ := h
  · rw [step_fwd, cost_bump S m i 1 x h1 (by rw [hl]; exact (List.getElem?_eq_some_iff.1 h1).1)]; simp [fwd]
  · rw [step_bwd, cost_bump S m i (-1) x h1 (by rw [hl]; exact (List.getElem?_eq_some_iff.1 h1).1)]; simp [bwd]
theorem step_net {S : List Sal} {a : Arc} {m : List Int} (v : Nat) (h : OfS S a) (hl : m.length = S.length) : net S (stepM m a) v = net S m v + (one (a.dst = v) - one (a.src = v)) := by
  obtain ⟨i, x, h1, rfl | rfl⟩ := h
  · rw [step_fwd, net_bump v S m i 1 x h1 (by rw [hl]; exact (List.getElem?_eq_some_iff.1 h1).1)]
    show _ = _ + (one (x.b = v) - one (x.s = v))
    rw [Int.one_mul]
  · rw [step_bwd, net_bump v S m i (-1) x h1 (by rw [hl]; exact (List.getElem?_eq_some_iff.1 h1).1)]
    show _ = _ + (one (x.s = v) - one (x.b = v))
    omega

/-- The arcs of a way back. -/
def chainArcs (p : Nat → Option Arc) : Nat → Nat → List Arc
  | 0, _ => []
  | k + 1, v => match p v with | none => [] | some a => a :: chainArcs p k a.src
def walked (m : List Int) (L : List Arc) : List Int := L.foldl stepM m
theorem walked_len {S : List Sal} : ∀ (L : List Arc) (m : List Int), (∀ a ∈ L, OfS S a) → (walked m L).length = m.length
  | [], _, _ => rfl
  | a :: L, m, h => by
    show (walked (stepM m a) L).length = _
    rw [walked_len L _ fun c hc => h c (by simp [hc]), step_len m (h a (by simp))]
theorem walked_cost {S : List Sal} {p : Nat → Option Arc} : ∀ {v u : Nat} {W : Int} {k : Nat}, Chain p v u W k → (∀ a ∈ chainArcs p k v, OfS S a) → ∀ (m : List Int), m.length = S.length → cost S (walked m (chainArcs p k v)) = cost S m + W := by
  intro v u W k h
  induction h with
  | nil v => intro _ m _; simp [chainArcs, walked]
  | @cons v u W k a ha _ ih =>
    intro hO m hl
    unfold chainArcs at hO ⊢
    rw [ha] at hO ⊢
    simp only at hO ⊢
    show cost S (walked (stepM m a) _) = _
    have h1 := hO a (by simp)
    rw [ih (fun c hc => hO c (by simp [hc])) _ (by rw [step_len m h1, hl]), step_cost h1 hl]
    omega
theorem walked_net {S : List Sal} {p : Nat → Option Arc} (t : Nat) : ∀ {v u : Nat} {W : Int} {k : Nat}, Chain p v u W k → (∀ x a, p x = some a → a.dst = x) → (∀ a ∈ chainArcs p k v, OfS S a) → ∀ (m : List Int), m.length = S.length → net S (walked m (chainArcs p k v)) t = net S m t + (one (v = t) - one (u = t)) := by
  intro v u W k h
  induction h with
  | nil v => intro _ _ m _; simp [chainArcs, walked]
  | @cons v u W k a ha _ ih =>
    intro hp hO m hl
    unfold chainArcs at hO ⊢
    rw [ha] at hO ⊢
    simp only at hO ⊢
    show net S (walked (stepM m a) _) t = _
    have h1 := hO a (by simp)
    rw [ih hp (fun c hc => hO c (by simp [hc])) _ (by rw [step_len m h1, hl]), step_net t h1 hl, hp v a ha]
    omega

/-! The way's arcs are known by its nodes. -/
theorem mem_chain {p : Nat → Option Arc} : ∀ {k v : Nat} {a : Arc}, a ∈ chainArcs p k v → ∃ j u, j < k ∧ backK p j v = some u ∧ p u = some a
  | 0, v, a, h => by cases h
  | k + 1, v, a, h => by
    unfold chainArcs at h
    cases hp : p v with
    | none => rw [hp] at h; cases h
    | some c =>
      rw [hp] at h
      rcases List.mem_cons.1 h with rfl | h
      · exact ⟨0, v, by omega, rfl, hp⟩
      · obtain ⟨j, u, h1, h2, h3⟩ := mem_chain h
        refine ⟨j + 1, u, by omega, ?_, h3⟩
        unfold backK
        rw [hp]
        exact h2
/-- No node is met twice in fewer than k steps. -/
def Simple (p : Nat → Option Arc) (k v : Nat) : Prop := ∀ i j u, i < k → j < k → backK p i v = some u → backK p j v = some u → i = j
theorem chain_nodup {p : Nat → Option Arc} (hp : ∀ x a, p x = some a → a.dst = x) : ∀ {k v : Nat}, Simple p k v → (chainArcs p k v).Nodup
  | 0, v, _ => by simp [chainArcs]
  | k + 1, v, h => by
    unfold chainArcs
    cases hv : p v with
    | none => simp
    | some a =>
      simp only [List.nodup_cons]
      refine ⟨fun hm => ?_, chain_nodup hp (fun i j u hi hj h1 h2 => ?_)⟩
      · obtain ⟨j, u, hj, h1, h2⟩ := mem_chain hm
        have e : u = v := by rw [← hp u a h2, hp v a hv]
        subst e
        have := h 0 (j + 1) u (by omega) (by omega) rfl (by unfold backK; rw [hv]; exact h1)
        omega
      · have := h (i + 1) (j + 1) u (by omega) (by omega) (by unfold backK; rw [hv]; exact h1) (by unfold backK; rw [hv]; exact h2)
        omega
theorem fwd_inj {x y : Sal} {i j : Nat} (h : (fwd x i).tag = (fwd y j).tag) : i = j := by simp [fwd] at h; omega
theorem bwd_inj {x y : Sal} {i j : Nat} (h : (bwd x i).tag = (bwd y j).tag) : i = j := by simp [bwd] at h; omega
/-- What moves by a sale behind steps of which none is taken twice. -/
theorem walked_get {S : List Sal} {i : Nat} {x : Sal} (hx : S[i]? = some x) : ∀ (L : List Arc) (m : List Int), (∀ a ∈ L, OfS S a) → L.Nodup → ∀ y, m[i]? = some y →
    ∃ f b : Int, (walked m L)[i]? = some (y + f - b) ∧ ((f = 1 ∧ fwd x i ∈ L) ∨ (f = 0 ∧ fwd x i ∉ L)) ∧ ((b = 1 ∧ bwd x i ∈ L) ∨ (b = 0 ∧ bwd x i ∉ L))
  | [], m, _, _, y, hy => ⟨0, 0, by simpa [walked] using hy, .inr ⟨rfl, by simp⟩, .inr ⟨rfl, by simp⟩⟩
  | a :: L, m, hO, hn, y, hy => by
    rw [List.nodup_cons] at hn
    show ∃ f b : Int, (walked (stepM m a) L)[i]? = _ ∧ _
    obtain ⟨j, z, hz, ha⟩ := hO a (by simp)
    by_cases hj : j = i
    · subst hj
      rw [hz] at hx
      injection hx with hx
      subst hx
      rcases ha with rfl | rfl
      · obtain ⟨f, b, h1, h2, h3⟩ := walked_get hz L (stepM m (fwd z j)) (fun c hc => hO c (by simp [hc])) hn.2 (y + 1) (by rw [step_fwd, bump_get, hy]; simp)
        refine ⟨1, b, ?_, .inl ⟨rfl, by simp⟩, ?_⟩
        · rcases h2 with ⟨_, h2⟩ | ⟨h2, _⟩
          · exact absurd h2 hn.1
          · rw [h1, h2]; congr 1; omega
        · rcases h3 with ⟨h3, h4⟩ | ⟨h3, h4⟩
          · exact .inl ⟨h3, by simp [h4]⟩
          · refine .inr ⟨h3, ?_⟩
            rw [List.mem_cons, not_or]
            exact ⟨by intro e; have := congrArg Arc.tag e; simp [fwd, bwd] at this; omega, h4⟩
      · obtain ⟨f, b, h1, h2, h3⟩ := walked_get hz L (stepM m (bwd z j)) (fun c hc => hO c (by simp [hc])) hn.2 (y - 1) (by rw [step_bwd, bump_get, hy]; simp; omega)
        refine ⟨f, 1, ?_, ?_, .inl ⟨rfl, by simp⟩⟩
        · rcases h3 with ⟨_, h3⟩ | ⟨h3, _⟩
          · exact absurd h3 hn.1
          · rw [h1, h3]; congr 1; omega
        · rcases h2 with ⟨h3, h4⟩ | ⟨h3, h4⟩
          · exact .inl ⟨h3, by simp [h4]⟩
          · refine .inr ⟨h3, ?_⟩
            rw [List.mem_cons, not_or]
            exact ⟨by intro e; have := congrArg Arc.tag e; simp [fwd, bwd] at this; omega, h4⟩
    · have hm : (stepM m a)[i]? = some y := by
        rcases ha with rfl | rfl
        · rw [step_fwd, bump_get, hy]; simp [hj]
        · rw [step_bwd, bump_get, hy]; simp [hj]
      obtain ⟨f, b, h1, h2, h3⟩ := walked_get hx L (stepM m a) (fun c hc => hO c (by simp [hc])) hn.2 y hm
      have e1 : fwd x i ≠ a := by
        rintro rfl
        rcases ha with e | e
        · exact hj (fwd_inj (congrArg Arc.tag e)).symm
        · have := congrArg Arc.tag e; simp [fwd, bwd] at this; omega
      have e2 : bwd x i ≠ a := by
        rintro rfl
        rcases ha with e | e
        · have := congrArg Arc.tag e; simp [fwd, bwd] at this; omega
        · exact hj (bwd_inj (congrArg Arc.tag e)).symm
      refine ⟨f, b, h1, ?_, ?_⟩
      · rcases h2 with ⟨h2, h4⟩ | ⟨h2, h4⟩
        · exact .inl ⟨h2, by simp [h4]⟩
        · exact .inr ⟨h2, by rw [List.mem_cons, not_or]; exact ⟨e1, h4⟩⟩
      · rcases h3 with ⟨h2, h4⟩ | ⟨h2, h4⟩
        · exact .inl ⟨h2, by simp [h4]⟩
        · exact .inr ⟨h2, by rw [List.mem_cons, not_or]; exact ⟨e2, h4⟩⟩

theorem feas_len : ∀ {S : List Sal} {m : List Int}, Feas S m → m.length = S.length
  | [], [], _ => rfl
  | x :: S, y :: m, h => by simpa using feas_len h.2
  | [], _ :: _, h => h.elim
  | _ :: _, [], h => h.elim
theorem feas_get : ∀ {S : List Sal} {m : List Int}, Feas S m → ∀ (i : Nat) (x : Sal) (y : Int), S[i]? = some x → m[i]? = some y → 0 ≤ y ∧ y ≤ x.cap
  | [], [], _, i, x, y, h, _ => by simp at h
  | x :: S, y :: m, h, 0, x', y', h1, h2 => by simp at h1 h2; subst h1 h2; exact h.1
  | x :: S, y :: m, h, i + 1, x', y', h1, h2 => feas_get h.2 i x' y' (by simpa using h1) (by simpa using h2)
  | [], _ :: _, h, _, _, _, _, _ => h.elim
  | _ :: _, [], h, _, _, _, _, _ => h.elim
theorem feas_of : ∀ {S : List Sal} {m : List Int}, m.length = S.length → (∀ (i : Nat) (x : Sal) (y : Int), S[i]? = some x → m[i]? = some y → 0 ≤ y ∧ y ≤ x.cap) → Feas S m
  | [], [], _, _ => trivial
  | x :: S, y :: m, hl, h => ⟨h 0 x y rfl rfl, feas_of (by simpa using hl) fun i x' y' h1 h2 => h (i + 1) x' y' (by simpa using h1) (by simpa using h2)⟩
  | [], _ :: _, hl, _ => by simp at hl
  | _ :: _, [], hl, _ => by simp at hl
/-- Steps that can be taken, none twice, lead to what can move. -/
theorem walked_feas {S : List Sal} {m : List Int} {L : List Arc} (hF : Feas S m) (hL : ∀ a ∈ L, a ∈ resArcs 0 S m) (hn : L.Nodup) : Feas S (walked m L) := by
  have hO : ∀ a ∈ L, OfS S a := fun a ha => ofS_res (hL a ha)
  refine feas_of (by rw [walked_len L m hO, feas_len hF]) fun i x y' hx hy' => ?_
  have hi : i < m.length := by rw [feas_len hF]; exact (List.getElem?_eq_some_iff.1 hx).1
  obtain ⟨f, b, h1, h2, h3⟩ := walked_get hx L m hO hn m[i] (List.getElem?_eq_getElem hi)
  rw [h1] at hy'
  injection hy' with hy'
  have hb := feas_get hF i x _ hx (List.getElem?_eq_getElem hi)
  have room : fwd x i ∈ L → m[i] < x.cap := fun h => by
    obtain ⟨j, z, y, e1, e2, e3⟩ := (mem_res S m 0 _).1 (hL _ h)
    rw [Nat.zero_add] at e3
    rcases e3 with ⟨e3, e4⟩ | ⟨e3, e4⟩
    · have := fwd_inj (congrArg Arc.tag e3)
      subst this
      rw [hx] at e1; injection e1 with e1
      rw [List.getElem?_eq_getElem hi] at e2; injection e2 with e2
      rw [e1, e2]; exact e4
    · have := congrArg Arc.tag e3; simp [fwd, bwd] at this; omega
  have some1 : bwd x i ∈ L → 0 < m[i] := fun h => by
    obtain ⟨j, z, y, e1, e2, e3⟩ := (mem_res S m 0 _).1 (hL _ h)
    rw [Nat.zero_add] at e3
    rcases e3 with ⟨e3, e4⟩ | ⟨e3, e4⟩
    · have := congrArg Arc.tag e3; simp [fwd, bwd] at this; omega
    · have := bwd_inj (congrArg Arc.tag e3)
      subst this
      rw [List.getElem?_eq_getElem hi] at e2; injection e2 with e2
      rw [e2]; exact e4
  rcases h2 with ⟨h2, h4⟩ | ⟨h2, _⟩ <;> rcases h3 with ⟨h3, h5⟩ | ⟨h3, _⟩
  · have := room h4; have := some1 h5; omega
  · have := room h4; omega
  · have := some1 h5; omega
  · omega

/-! Sums over the nodes. -/
def sumN : Nat → (Nat → Int) → Int
  | 0, _ => 0
  | n + 1, f => sumN n f + f n
theorem sumN_add (n : Nat) (f g : Nat → Int) : sumN n (fun v => f v + g v) = sumN n f + sumN n g := by
  induction n with
  | zero => rfl
  | succ n ih => simp only [sumN, ih]; omega
theorem sumN_zero (n : Nat) : sumN n (fun _ => 0) = 0 := by
  induction n with
  | zero => rfl
  | succ n ih => simp only [sumN, ih]; omega
theorem sumN_mul (n : Nat) (c : Int) (f : Nat → Int) : sumN n (fun v => c * f v) = c * sumN n f := by
  induction n with
  | zero => simp [sumN]
  | succ n ih => simp only [sumN, ih, Int.mul_add]
theorem sumN_congr {n : Nat} {f g : Nat → Int} (h : ∀ v, v < n → f v = g v) : sumN n f = sumN n g := by
  induction n with
  | zero => rfl
  | succ n ih => simp only [sumN, ih fun v hv => h v (by omega), h n (by omega)]
theorem sumN_one {n u : Nat} (π : Nat → Int) : sumN n (fun v => π v * one (u = v)) = if u < n then π u else 0 := by
  induction n with
  | zero => rfl
  | succ n ih =>
    simp only [sumN, ih]
    by_cases h : u = n
    · subst h; simp [one]
    · have e : one (u = n) = 0 := if_neg h
      rw [e]
      by_cases h2 : u < n
      · rw [if_pos h2, if_pos (by omega)]; omega
      · rw [if_neg h2, if_neg (by omega)]; omega
theorem sumN_le {n : Nat} {f : Nat → Int} (h : ∀ v, v < n → f v ≤ 0) : sumN n f ≤ 0 := by
  induction n with
  | zero => exact Int.le_refl _
  | succ n ih => simp only [sumN]; have := ih fun v hv => h v (by omega); have := h n (by omega); omega
theorem sumN_each {n : Nat} {f : Nat → Int} (h : ∀ v, v < n → f v ≤ 0) (h0 : 0 ≤ sumN n f) : ∀ v, v < n → f v = 0 := by
  induction n with
  | zero => intro v hv; omega
  | succ n ih =>
    simp only [sumN] at h0
    have h1 := sumN_le fun v (hv : v < n) => h v (by omega)
    have h2 := h n (by omega)
    intro v hv
    by_cases e : v = n
    · subst e; omega
    · exact ih (fun v hv => h v (by omega)) (by omega) v (by omega)
/-- What all houses get, each at a price of its own. -/
theorem net_sum {n : Nat} (π : Nat → Int) : ∀ (S : List Sal) (m : List Int), (∀ x ∈ S, x.s < n ∧ x.b < n) → sumN n (fun v => π v * net S m v) = cost (S.map fun x => ⟨x.s, x.b, x.cap, π x.b - π x.s⟩) m
  | [], m, _ => by simp [net, cost, sumN_zero]
  | x :: S, [], _ => by simp [net, cost, sumN_zero]
  | x :: S, y :: m, h => by
    have ih := net_sum π S m fun z hz => h z (by simp [hz])
    obtain ⟨h1, h2⟩ := h x (by simp)
    simp only [List.map_cons, cost, net]
    rw [← ih, sumN_congr (g := fun v => y * (π v * one (x.b = v) + (-1) * (π v * one (x.s = v))) + π v * net S m v), sumN_add, sumN_mul, sumN_add, sumN_mul, sumN_one, sumN_one, if_pos h1, if_pos h2]
    · rw [show π x.b + -1 * π x.s = π x.b - π x.s by omega, Int.mul_comm]
    · intro v _
      rw [Int.mul_add, Int.mul_left_comm, Int.mul_sub]
      congr 1
      congr 1
      omega
theorem cost_add (S : List Sal) (f : Sal → Int) (m : List Int) : cost (S.map fun x => ⟨x.s, x.b, x.cap, x.c - f x⟩) m = cost S m - cost (S.map fun x => ⟨x.s, x.b, x.cap, f x⟩) m := by
  induction S generalizing m with
  | nil => rfl
  | cons x S ih =>
    cases m with
    | nil => rfl
    | cons y m => simp only [List.map_cons, cost, ih, Int.sub_mul]; omega
theorem pot_cost {π : Nat → Int} : ∀ (S : List Sal) (m m' : List Int), Feas S m → Feas S m' → (∀ (i : Nat) (x : Sal) (y : Int), S[i]? = some x → m[i]? = some y → (y < x.cap → π x.b ≤ π x.s + x.c) ∧ (0 < y → π x.s ≤ π x.b - x.c)) →
    cost (S.map fun x => ⟨x.s, x.b, x.cap, x.c - (π x.b - π x.s)⟩) m ≤ cost (S.map fun x => ⟨x.s, x.b, x.cap, x.c - (π x.b - π x.s)⟩) m'
  | [], [], [], _, _, _ => Int.le_refl _
  | x :: S, y :: m, y' :: m', hF, hF', h => by
    have ih := pot_cost S m m' hF.2 hF'.2 fun i x' y' h1 h2 => h (i + 1) x' y' (by simpa using h1) (by simpa using h2)
    obtain ⟨h1, h2⟩ := h 0 x y rfl rfl
    simp only [List.map_cons, cost]
    have : (x.c - (π x.b - π x.s)) * y ≤ (x.c - (π x.b - π x.s)) * y' := by
      by_cases e : y ≤ y'
      · by_cases e2 : y = y'
        · rw [e2]; exact Int.le_refl _
        · have := h1 (by have := hF'.1.2; omega)
          exact Int.mul_le_mul_of_nonneg_left e (by omega)
      · have := h2 (by have := hF'.1.1; omega)
        exact Int.mul_le_mul_of_nonpos_left (by omega) (by omega)
    omega
  | [], _ :: _, _, h, _, _ => h.elim
  | _ :: _, [], _, h, _, _ => h.elim
  | [], [], _ :: _, _, h, _ => h.elim
  | _ :: _, _ :: _, [], _, h, _ => h.elim
/-- What moves at the least cost, of all by which the houses get the same: the numbers π prove it. -/
def Opt (S : List Sal) (full m : List Int) : Prop := Feas S m ∧ (∀ v, net S m v = net S full v) ∧ ∃ π, Pot (resArcs 0 S m) π
theorem opt_least {S : List Sal} {n : Nat} (hS : ∀ x ∈ S, x.s < n ∧ x.b < n) {full m m' : List Int} (h : Opt S full m) (hF' : Feas S m') (hn : ∀ v, net S m' v = net S full v) : cost S m ≤ cost S m' := by
  obtain ⟨hF, hn0, π, hπ⟩ := h
  have h1 := pot_cost (π := π) S m m' hF hF' (by
    intro i x y hx hy
    refine ⟨fun hl => ?_, fun hl => ?_⟩
    · exact hπ (fwd x i) ((mem_res S m 0 _).2 ⟨i, x, y, hx, hy, .inl ⟨by rw [Nat.zero_add], hl⟩⟩)
    · have := hπ (bwd x i) ((mem_res S m 0 _).2 ⟨i, x, y, hx, hy, .inr ⟨by rw [Nat.zero_add], hl⟩⟩)
      simp only [bwd] at this
      omega)
  rw [cost_add, cost_add, ← net_sum π S m hS, ← net_sum π S m' hS] at h1
  rw [sumN_congr (g := fun v => π v * net S m' v) (fun v _ => by rw [hn0, hn])] at h1
  omega
end Go.Proofs.YtafdbgielmlihaaDoor
/- How what moves at the least cost is found: bale by bale by the cheapest way, or by rings that cost less than nothing; and that there is just one, if earlier sales count for more. -/
namespace Go.Proofs.YtafdbgielmlihaaDoor

theorem simple_root {p : Nat → Option Arc} {k v r : Nat} (h : backK p k v = some r) (hr : p r = none) : Simple p (k + 1) v := by
  have hnone : ∀ j, k < j → backK p j v = none := by
    intro j hj
    rw [show j = k + (1 + (j - k - 1)) by omega, back_add, h]
    show backK p (1 + (j - k - 1)) r = none
    rw [Nat.add_comm]
    unfold backK
    rw [hr]
  have key : ∀ i j u, i < j → j ≤ k → backK p i v = some u → backK p j v = some u → False := by
    intro i j u hij hj hi hj'
    have h1 : backK p (k - j) u = some r := by
      have := back_add p j (k - j) v
      rw [hj', show j + (k - j) = k by omega, h] at this
      exact this.symm
    have h2 := back_add p i (k + 1 - i) v
    rw [hi, hnone _ (by omega)] at h2
    have h3 := back_add p i (k - j) v
    rw [hi] at h3
    -- r is met already i + (k - j) steps back
    have h4 : backK p (i + (k - j)) v = some r := by rw [h3]; exact h1
    have h5 : backK p k v = none := by
      rw [show k = (i + (k - j)) + (1 + (j - i - 1)) by omega, back_add, h4]
      show backK p (1 + (j - i - 1)) r = none
      rw [Nat.add_comm]
      unfold backK
      rw [hr]
    rw [h] at h5
    cases h5
  intro i j u hi hj h1 h2
  rcases Nat.lt_trichotomy i j with h' | h' | h'
  · exact (key i j u h' (by omega) h1 h2).elim
  · exact h'
  · exact (key j i u h' (by omega) h2 h1).elim
theorem simple_mono {p : Nat → Option Arc} {k k' v : Nat} (h : Simple p k v) (hk : k' ≤ k) : Simple p k' v :=
  fun i j u hi hj => h i j u (by omega) (by omega)

section
variable {S : List Sal} {n : Nat}
theorem res_lt (hS : ∀ x ∈ S, x.s < n ∧ x.b < n) (m : List Int) : ∀ a ∈ resArcs 0 S m, a.src < n ∧ a.dst < n := by
  intro a ha
  obtain ⟨i, x, h1, h2⟩ := ofS_res ha
  obtain ⟨h3, h4⟩ := hS x (List.mem_of_getElem? h1)
  rcases h2 with rfl | rfl
  · exact ⟨h3, h4⟩
  · exact ⟨h4, h3⟩
/-- What is left of what each house is owed. -/
def leftI (S : List Sal) (full m : List Int) (v : Nat) : Int := net S full v - net S m v
def oweS (S : List Sal) (full m : List Int) (v : Nat) : Bool := decide (leftI S full m v < 0)
def bfOf (S : List Sal) (n : Nat) (full m : List Int) : BF := passes (resArcs 0 S m) n (init0 (oweS S full m))

theorem chain_res {A : List Arc} {T : Nat → Bool} {σ : BF} (hI : Inv A T σ) (k v : Nat) : ∀ a ∈ chainArcs σ.p k v, a ∈ A := by
  intro a ha
  obtain ⟨j, u, _, _, h⟩ := mem_chain ha
  exact (hI.arc u a h).1
/-- **A bale goes by the cheapest way**: what moves can move still, what is left has turned at the ends alone, and there are numbers that prove it. -/
theorem path_step (hS : ∀ x ∈ S, x.s < n ∧ x.b < n) {full m : List Int} (hF : Feas S m) {π : Nat → Int} (hπ : Pot (resArcs 0 S m) π) {t : Nat} (ht : t < n) :
    ∃ k r, k < n ∧ backK (bfOf S n full m).p k t = some r ∧ (bfOf S n full m).p r = none ∧ Simple (bfOf S n full m).p (k + 1) t ∧
      Feas S (walked m (chainArcs (bfOf S n full m).p k t)) ∧
      (∀ v, net S (walked m (chainArcs (bfOf S n full m).p k t)) v = net S m v + (one (t = v) - one (r = v))) ∧
      ((∃ y, (bfOf S n full m).d t = some y) → oweS S full m r = true) ∧ ∃ π', Pot (resArcs 0 S (walked m (chainArcs (bfOf S n full m).p k t))) π' := by
  have hI : Inv (resArcs 0 S m) (oweS S full m) (bfOf S n full m) := Inv.passes _ _ n
  have hlt := res_lt hS m
  have htight : ∀ a ∈ resArcs 0 S m, ∀ x, (bfOf S n full m).d a.src = some x → ∃ y, (bfOf S n full m).d a.dst = some y ∧ y ≤ x + a.w := fun a ha x hx => tight (S := oweS S full m) (fun c hc => (hlt c hc).1) (fun c hc => (hlt c hc).2) hπ ha hx
  generalize hσ : bfOf S n full m = σ at *
  obtain ⟨k, r, hk, hb, hr⟩ := root_of (fun a ha => (hlt a ha).1) hπ hI ht
  obtain ⟨W, hC⟩ := (back_chain σ.p k t r).1 hb
  have hsim := simple_root hb hr
  have hin := chain_res hI k t
  have hO : ∀ a ∈ chainArcs σ.p k t, OfS S a := fun a ha => ofS_res (hin a ha)
  have hdst : ∀ x a, σ.p x = some a → a.dst = x := fun x a h => (hI.arc x a h).2.1
  have hnd := chain_nodup hdst (simple_mono hsim (Nat.le_succ k))
  refine ⟨k, r, hk, hb, hr, hsim, walked_feas hF hin hnd, fun v => walked_net v hC hdst hO m (feas_len hF), ?_, ?_⟩
  · rintro hy
    obtain ⟨x, hx⟩ := hI.known hC hy
    have := hI.root r hr
    rw [hx] at this
    unfold init0 at this
    simp only at this
    split at this
    · assumption
    · cases this
  · -- the new numbers: what it costs to come there; far above, where one does not come
    have hK : ∃ K : Int, ∀ v, v < n → ∀ y, σ.d v = some y → y ≤ π v + K := by
      have : ∀ j, ∃ K : Int, ∀ v, v < j → ∀ y, σ.d v = some y → y ≤ π v + K := by
        intro j
        induction j with
        | zero => exact ⟨0, fun v hv => by omega⟩
        | succ j ih =>
          obtain ⟨K, hK⟩ := ih
          cases hd : σ.d j with
          | none => exact ⟨K, fun v hv y hy => by
              by_cases e : v = j
              · subst e; rw [hd] at hy; cases hy
              · exact hK v (by omega) y hy⟩
          | some z => exact ⟨max K (z - π j), fun v hv y hy => by
              by_cases e : v = j
              · subst e; rw [hd] at hy; injection hy with hy; omega
              · have := hK v (by omega) y hy; omega⟩
      exact this n
    obtain ⟨K, hK⟩ := hK
    refine ⟨fun v => match σ.d v with | some y => y | none => π v + K, fun a ha => ?_⟩
    -- arcs that were there, and those that are turned round
    have hold : ∀ c ∈ resArcs 0 S m, (match σ.d c.dst with | some y => y | none => π c.dst + K) ≤ (match σ.d c.src with | some y => y | none => π c.src + K) + c.w := by
      intro c hc
      have h0 := hπ c hc
      cases hs : σ.d c.src with
      | some x =>
        obtain ⟨y, hy, h1⟩ := htight c hc x hs
        rw [hy]
        exact h1
      | none =>
        cases hd : σ.d c.dst with
        | none => simp only; omega
        | some y =>
          have := hK c.dst (hlt c hc).2 y hd
          simp only
          omega
    have hback : ∀ c ∈ chainArcs σ.p k t, (match σ.d c.src with | some y => y | none => π c.src + K) ≤ (match σ.d c.dst with | some y => y | none => π c.dst + K) - c.w := by
      intro c hc
      obtain ⟨j, u, _, _, hu⟩ := mem_chain hc
      obtain ⟨_, e, x, y, hx, hy, h1⟩ := hI.arc u c hu
      rw [hx, e, hy]
      simp only
      omega
    obtain ⟨i, x, y', hx, hy', h3⟩ := (mem_res S _ 0 a).1 ha
    rw [Nat.zero_add] at h3
    have hi : i < m.length := by rw [feas_len hF]; exact (List.getElem?_eq_some_iff.1 hx).1
    obtain ⟨f, b, h1, h2, h4⟩ := walked_get hx _ m hO hnd m[i] (List.getElem?_eq_getElem hi)
    rw [h1] at hy'
    injection hy' with hy'
    rcases h3 with ⟨rfl, h3⟩ | ⟨rfl, h3⟩
    · by_cases hl : m[i] < x.cap
      · exact hold _ ((mem_res S m 0 _).2 ⟨i, x, m[i], hx, List.getElem?_eq_getElem hi, .inl ⟨by rw [Nat.zero_add], hl⟩⟩)
      · rcases h4 with ⟨h4, h5⟩ | ⟨h4, _⟩
        · have := hback _ h5
          simp only [bwd, fwd] at this ⊢
          omega
        · rcases h2 with ⟨h2, _⟩ | ⟨h2, _⟩ <;> omega
    · by_cases hl : 0 < m[i]
      · exact hold _ ((mem_res S m 0 _).2 ⟨i, x, m[i], hx, List.getElem?_eq_getElem hi, .inr ⟨by rw [Nat.zero_add], hl⟩⟩)
      · rcases h2 with ⟨h2, h5⟩ | ⟨h2, _⟩
        · have := hback _ h5
          simp only [bwd, fwd] at this ⊢
          omega
        · rcases h4 with ⟨h4, _⟩ | ⟨h4, _⟩ <;> omega
/-- Sums over the sales that may move more still. -/
theorem net_in (R : Nat → Bool) : ∀ (S : List Sal) (m : List Int), Feas S m → (∀ (i : Nat) (x : Sal) (y : Int), S[i]? = some x → m[i]? = some y → y < x.cap → R x.s = true → R x.b = true) →
    0 ≤ cost (S.map fun x => ⟨x.s, x.b, x.cap, one (R x.b = true) - one (R x.s = true)⟩) (caps S) - cost (S.map fun x => ⟨x.s, x.b, x.cap, one (R x.b = true) - one (R x.s = true)⟩) m
  | [], [], _, _ => by simp [cost]
  | x :: S, y :: m, hF, h => by
    have ih := net_in R S m hF.2 fun i x' y' h1 h2 => h (i + 1) x' y' (by simpa using h1) (by simpa using h2)
    have h0 := h 0 x y rfl rfl
    simp only [caps, List.map_cons, cost] at ih ⊢
    have : (one (R x.b = true) - one (R x.s = true)) * y ≤ (one (R x.b = true) - one (R x.s = true)) * x.cap := by
      by_cases e : y = x.cap
      · rw [e]; exact Int.le_refl _
      · have h1 := h0 (by have := hF.1.2; omega)
        refine Int.mul_le_mul_of_nonneg_left hF.1.2 ?_
        unfold one
        by_cases hs : R x.s = true
        · rw [if_pos hs, if_pos (h1 hs)]; omega
        · rw [if_neg hs]; split <;> omega
    omega
  | [], _ :: _, h, _ => h.elim
  | _ :: _, [], h, _ => h.elim
theorem net_far {v : Nat} (hv : n ≤ v) : ∀ (S : List Sal) (m : List Int), (∀ x ∈ S, x.s < n ∧ x.b < n) → net S m v = 0
  | [], m, _ => by simp [net]
  | x :: S, [], _ => by simp [net]
  | x :: S, y :: m, h => by
    obtain ⟨h1, h2⟩ := h x (by simp)
    simp only [net, net_far hv S m fun z hz => h z (by simp [hz])]
    have e1 : one (x.b = v) = 0 := if_neg (by omega)
    have e2 : one (x.s = v) = 0 := if_neg (by omega)
    rw [e1, e2]
    simp
theorem cost_none : ∀ (S : List Sal) (m : List Int), cost (S.map fun x => ⟨x.s, x.b, x.cap, (1 : Int) - 1⟩) m = 0
  | [], m => by simp [cost]
  | x :: S, [] => by simp [cost]
  | x :: S, y :: m => by simp only [List.map_cons, cost, cost_none S m]; omega
theorem net_total (hS : ∀ x ∈ S, x.s < n ∧ x.b < n) (m : List Int) : sumN n (fun v => net S m v) = 0 := by
  have := net_sum (n := n) (fun _ => 1) S m hS
  rw [cost_none] at this
  rw [← this]
  exact sumN_congr fun v _ => by rw [Int.one_mul]
/-- **Where no bale goes on, nothing is left.** -/
theorem path_end (hS : ∀ x ∈ S, x.s < n ∧ x.b < n) {m : List Int} (hF : Feas S m) {π : Nat → Int} (hπ : Pot (resArcs 0 S m) π)
    (hend : ∀ t, t < n → 0 < leftI S (caps S) m t → (bfOf S n (caps S) m).d t = none) : Opt S (caps S) m := by
  refine ⟨hF, ?_, π, hπ⟩
  have hlt := res_lt hS m
  have htight : ∀ a ∈ resArcs 0 S m, ∀ x, (bfOf S n (caps S) m).d a.src = some x → ∃ y, (bfOf S n (caps S) m).d a.dst = some y ∧ y ≤ x + a.w := fun a ha x hx => tight (S := oweS S (caps S) m) (fun c hc => (hlt c hc).1) (fun c hc => (hlt c hc).2) hπ ha hx
  have hown : ∀ v, leftI S (caps S) m v < 0 → ((bfOf S n (caps S) m).d v).isSome = true := by
    intro v hv
    obtain ⟨a, ha, _⟩ := passes_better (resArcs 0 S m) (init0 (oweS S (caps S) m)) v n 0 (by simp [init0, oweS, hv])
    exact Option.isSome_iff_exists.2 ⟨a, ha⟩
  generalize bfOf S n (caps S) m = σ at *
  -- the houses that are come to
  have hR : 0 ≤ sumN n fun v => one ((σ.d v).isSome = true) * leftI S (caps S) m v := by
    have h1 := net_in (fun v => (σ.d v).isSome) S m hF (by
      intro i x y hx hy hl hd
      obtain ⟨d, hd⟩ := Option.isSome_iff_exists.1 hd
      obtain ⟨e, he, _⟩ := htight (fwd x i) ((mem_res S m 0 _).2 ⟨i, x, y, hx, hy, .inl ⟨by rw [Nat.zero_add], hl⟩⟩) d hd
      exact Option.isSome_iff_exists.2 ⟨e, he⟩)
    have e1 := net_sum (n := n) (fun v => one ((σ.d v).isSome = true)) S (caps S) hS
    have e2 := net_sum (n := n) (fun v => one ((σ.d v).isSome = true)) S m hS
    have e3 := sumN_add n (fun v => one ((σ.d v).isSome = true) * leftI S (caps S) m v) (fun v => one ((σ.d v).isSome = true) * net S m v)
    have e4 : (fun v => one ((σ.d v).isSome = true) * leftI S (caps S) m v + one ((σ.d v).isSome = true) * net S m v) = fun v => one ((σ.d v).isSome = true) * net S (caps S) v := by
      funext v
      rw [← Int.mul_add]
      unfold leftI
      congr 1
      omega
    rw [e4] at e3
    omega
  have each := sumN_each (f := fun v => one ((σ.d v).isSome = true) * leftI S (caps S) m v) (by
    intro v hv
    by_cases hk : (σ.d v).isSome = true
    · have e : one ((σ.d v).isSome = true) = 1 := if_pos hk
      show one ((σ.d v).isSome = true) * leftI S (caps S) m v ≤ 0
      rw [e]
      by_cases hp : 0 < leftI S (caps S) m v
      · rw [hend v hv hp] at hk
        cases hk
      · omega
    · have e : one ((σ.d v).isSome = true) = 0 := if_neg hk
      show one ((σ.d v).isSome = true) * leftI S (caps S) m v ≤ 0
      rw [e]; omega) hR
  have nonneg : ∀ v, v < n → - leftI S (caps S) m v ≤ 0 := by
    intro v hv
    apply Classical.byContradiction
    intro hn
    have hk := hown v (by omega)
    have h0 := each v hv
    have e : one ((σ.d v).isSome = true) = 1 := if_pos hk
    rw [e] at h0
    omega
  have total : sumN n (fun v => - leftI S (caps S) m v) = 0 := by
    have e1 := sumN_add n (fun v => - leftI S (caps S) m v) (fun v => net S (caps S) v)
    rw [net_total hS, sumN_congr (g := fun v => net S m v) (fun v _ => by unfold leftI; omega), net_total hS] at e1
    omega
  intro v
  by_cases hv : v < n
  · have := sumN_each nonneg (by omega) v hv
    unfold leftI at this
    omega
  · rw [net_far (by omega) S m hS, net_far (by omega) S _ hS]
end

/-! Rings. -/
section
variable {S : List Sal} {n : Nat}
def bf1 (S : List Sal) (n : Nat) (m : List Int) : BF := passes (resArcs 0 S m) (n + 1) (init0 fun _ => true)
def bf0 (S : List Sal) (n : Nat) (m : List Int) : BF := passes (resArcs 0 S m) n (init0 fun _ => true)
/-- **A ring that costs less than nothing is gone round.** -/
theorem ring_step (hS : ∀ x ∈ S, x.s < n ∧ x.b < n) {m : List Int} (hF : Feas S m) {u : Nat} {v : Nat} (hv : v < n) {y : Int} (hy : (bf1 S n m).d v = some y) (hb : lessO y ((bf0 S n m).d v) = true) (hu : backK (bf1 S n m).p n v = some u) :
    ∃ t, 0 < t ∧ t ≤ n ∧ backK (bf1 S n m).p t u = some u ∧ (∀ j, 0 < j → j < t → backK (bf1 S n m).p j u ≠ some u) ∧ (∀ j, j ≤ t → (backK (bf1 S n m).p j u).isSome = true) ∧
      Feas S (walked m (chainArcs (bf1 S n m).p t u)) ∧ (∀ v, net S (walked m (chainArcs (bf1 S n m).p t u)) v = net S m v) ∧ cost S (walked m (chainArcs (bf1 S n m).p t u)) < cost S m := by
  have hI : Inv (resArcs 0 S m) (fun _ => true) (bf1 S n m) := Inv.passes _ _ _
  have hlt := res_lt hS m
  obtain ⟨u', t0, W0, h1, h2, h3, h4, h5⟩ := ring_of (fun a ha => (hlt a ha).1) hI hv hy hb
  rw [hu] at h1
  injection h1 with h1
  subst h1
  generalize bf1 S n m = σ at *
  -- the first time that one comes round
  have hmin : ∃ t, 0 < t ∧ t ≤ t0 ∧ backK σ.p t u = some u ∧ ∀ j, 0 < j → j < t → backK σ.p j u ≠ some u := by
    have : ∀ k, (∃ t, 0 < t ∧ t ≤ k ∧ backK σ.p t u = some u) → ∃ t, 0 < t ∧ t ≤ k ∧ backK σ.p t u = some u ∧ ∀ j, 0 < j → j < t → backK σ.p j u ≠ some u := by
      intro k
      induction k with
      | zero => rintro ⟨t, h1, h2, _⟩; omega
      | succ k ih =>
        rintro ⟨t, h1, h2, h3⟩
        by_cases hk : ∃ t, 0 < t ∧ t ≤ k ∧ backK σ.p t u = some u
        · obtain ⟨t, a, b, c⟩ := ih hk
          exact ⟨t, a, by omega, c⟩
        · exact ⟨t, h1, h2, h3, fun j hj hjt he => hk ⟨j, hj, by omega, he⟩⟩
    exact this t0 ⟨t0, h2, Nat.le_refl _, (back_chain _ _ _ _).2 ⟨W0, h4⟩⟩
  obtain ⟨t, g1, g2, g3, g4⟩ := hmin
  obtain ⟨W, hC⟩ := (back_chain σ.p t u u).1 g3
  have hsome : ∀ j, j ≤ t → (backK σ.p j u).isSome = true := by
    intro j hj
    cases hb : backK σ.p j u with
    | some _ => rfl
    | none =>
      have := back_add σ.p j (t - j) u
      rw [hb, show j + (t - j) = t by omega, g3] at this
      cases this
  have hsim : Simple σ.p t u := by
    have key : ∀ i j x, i < j → j < t → backK σ.p i u = some x → backK σ.p j u = some x → False := by
      intro i j x hij hj hi hj'
      have e1 := back_add σ.p j (t - j) u
      rw [hj', show j + (t - j) = t by omega, g3] at e1
      have e2 := back_add σ.p i (t - j) u
      rw [hi] at e2
      have e3 : backK σ.p (i + (t - j)) u = some u := by rw [e2]; exact e1.symm
      exact g4 _ (by omega) (by omega) e3
    intro i j x hi hj h1 h2
    rcases Nat.lt_trichotomy i j with h' | h' | h'
    · exact (key i j x h' hj h1 h2).elim
    · exact h'
    · exact (key j i x h' hi h2 h1).elim
  have hin := chain_res hI t u
  have hO : ∀ a ∈ chainArcs σ.p t u, OfS S a := fun a ha => ofS_res (hin a ha)
  have hdst : ∀ x a, σ.p x = some a → a.dst = x := fun x a h => (hI.arc x a h).2.1
  have hnd := chain_nodup hdst hsim
  refine ⟨t, g1, by omega, g3, g4, hsome, walked_feas hF hin hnd, fun v => ?_, ?_⟩
  · rw [walked_net v hC hdst hO m (feas_len hF)]; omega
  · rw [walked_cost hC hO m (feas_len hF)]
    have := hI.ring u W t g1 hC
    omega
/-- Where all arcs are asked and nothing is bettered, the costs are numbers that prove it. -/
theorem ring_end {m : List Int} (hF : Feas S m) (hn : ∀ v, net S m v = net S (caps S) v) (h : ∀ a ∈ resArcs 0 S m, ∀ x, (bf0 S n m).d a.src = some x → lessO (x + a.w) ((bf0 S n m).d a.dst) = false) : Opt S (caps S) m := by
  refine ⟨hF, hn, fun v => ((bf0 S n m).d v).getD 0, fun a ha => ?_⟩
  have hk : ∀ v, ∃ y, (bf0 S n m).d v = some y := fun v => by
    obtain ⟨a, ha, _⟩ := passes_better (resArcs 0 S m) (init0 fun _ => true) v n 0 rfl
    exact ⟨a, ha⟩
  obtain ⟨x, hx⟩ := hk a.src
  obtain ⟨y, hy⟩ := hk a.dst
  have := h a ha x hx
  rw [hy] at this
  simp [lessO] at this
  show ((bf0 S n m).d a.dst).getD 0 ≤ ((bf0 S n m).d a.src).getD 0 + a.w
  rw [hx, hy]
  exact this
end

/-! There is just one. -/
def sumI : List Int → Int
  | [] => 0
  | y :: m => y + sumI m
/-- Earlier numbers count for more. -/
def digits (β : Int) : List Int → Int
  | [] => 0
  | y :: m => y * β ^ m.length + digits β m
def lexLt : List Int → List Int → Prop
  | y :: m, z :: l => y < z ∨ (y = z ∧ lexLt m l)
  | _, _ => False
def Nine (m : List Int) : Prop := ∀ y ∈ m, 0 ≤ y ∧ y ≤ 9
theorem digits_bd {β : Int} (hβ : 10 ≤ β) : ∀ (m : List Int), Nine m → 0 ≤ digits β m ∧ digits β m < β ^ m.length
  | [], _ => by simp [digits]
  | y :: m, h => by
    obtain ⟨h1, h2⟩ := digits_bd hβ m fun z hz => h z (by simp [hz])
    obtain ⟨h3, h4⟩ := h y (by simp)
    have hp : 0 < β ^ m.length := Int.pow_pos (by omega)
    simp only [digits, List.length_cons, Int.pow_succ]
    have h5 : 0 ≤ y * β ^ m.length := Int.mul_nonneg h3 (by omega)
    have h6 : y * β ^ m.length ≤ 9 * β ^ m.length := Int.mul_le_mul_of_nonneg_right h4 (by omega)
    have h7 : β ^ m.length * 10 ≤ β ^ m.length * β := Int.mul_le_mul_of_nonneg_left hβ (by omega)
    omega
theorem digits_lt {β : Int} (hβ : 10 ≤ β) : ∀ (m l : List Int), m.length = l.length → Nine m → Nine l → lexLt m l → digits β m < digits β l
  | [], [], _, _, _, h => h.elim
  | y :: m, z :: l, hl, hm, hn, h => by
    have hlen : m.length = l.length := by simpa using hl
    simp only [digits, hlen]
    rcases h with h | ⟨rfl, h⟩
    · obtain ⟨_, h1⟩ := digits_bd hβ m fun w hw => hm w (by simp [hw])
      obtain ⟨h2, _⟩ := digits_bd hβ l fun w hw => hn w (by simp [hw])
      have hp : 0 < β ^ l.length := Int.pow_pos (by omega)
      have : (y + 1) * β ^ l.length ≤ z * β ^ l.length := Int.mul_le_mul_of_nonneg_right (by omega) (by omega)
      rw [Int.add_mul] at this
      rw [hlen] at h1
      omega
    · have := digits_lt hβ m l hlen (fun w hw => hm w (by simp [hw])) (fun w hw => hn w (by simp [hw])) h
      omega
  | [], _ :: _, hl, _, _, _ => by simp at hl
  | _ :: _, [], hl, _, _, _ => by simp at hl
theorem lex_total : ∀ (m l : List Int), m.length = l.length → m = l ∨ lexLt m l ∨ lexLt l m
  | [], [], _ => .inl rfl
  | y :: m, z :: l, h => by
    rcases Int.lt_trichotomy y z with h1 | h1 | h1
    · exact .inr (.inl (.inl h1))
    · subst h1
      rcases lex_total m l (by simpa using h) with h2 | h2 | h2
      · exact .inl (by rw [h2])
      · exact .inr (.inl (.inr ⟨rfl, h2⟩))
      · exact .inr (.inr (.inr ⟨rfl, h2⟩))
    · exact .inr (.inr (.inl h1))
  | [], _ :: _, h => by simp at h
  | _ :: _, [], h => by simp at h
/-- Two ways to count, both with the sum first and then earlier numbers: the least by the one is the least by the other. -/
theorem least_one {β γ X Y : Int} (hβ : 10 ≤ β) (hγ : 10 ≤ γ) {m l : List Int} (hl : m.length = l.length) (hm : Nine m) (hn : Nine l) (hX : β ^ m.length ≤ X) (hY : γ ^ m.length ≤ Y)
    (h1 : X * sumI m + digits β m ≤ X * sumI l + digits β l) (h2 : Y * sumI l + digits γ l ≤ Y * sumI m + digits γ m) : m = l := by
  obtain ⟨a1, a2⟩ := digits_bd hβ m hm
  obtain ⟨a3, a4⟩ := digits_bd hβ l hn
  obtain ⟨b1, b2⟩ := digits_bd hγ m hm
  obtain ⟨b3, b4⟩ := digits_bd hγ l hn
  rw [← hl] at a4 b4
  have hs : sumI m = sumI l := by
    rcases Int.lt_trichotomy (sumI m) (sumI l) with h | h | h
    · have : Y * (sumI m + 1) ≤ Y * sumI l := Int.mul_le_mul_of_nonneg_left (by omega) (by omega)
      rw [Int.mul_add] at this
      omega
    · exact h
    · have : X * (sumI l + 1) ≤ X * sumI m := Int.mul_le_mul_of_nonneg_left (by omega) (by omega)
      rw [Int.mul_add] at this
      omega
  rw [hs] at h1 h2
  rcases lex_total m l hl with h | h | h
  · exact h
  · have := digits_lt hγ m l hl hm hn h; omega
  · have := digits_lt hβ l m hl.symm hn hm h; omega
end Go.Proofs.YtafdbgielmlihaaDoor
/- The closing of a chain, in plain words: costs by sums and earlier sales; the numbers that prove it are there for the bales alone, too. -/
namespace Go.Proofs.YtafdbgielmlihaaDoor

/-- Sales with other costs: the i-th costs f i. -/
def costed (f : Nat → Int) : Nat → List Sal → List Sal
  | _, [] => []
  | i, x :: S => ⟨x.s, x.b, x.cap, f i⟩ :: costed f (i + 1) S
theorem costed_len (f : Nat → Int) : ∀ (S : List Sal) (i : Nat), (costed f i S).length = S.length
  | [], _ => rfl
  | _ :: S, i => by simp [costed, costed_len f S (i + 1)]
theorem costed_get (f : Nat → Int) : ∀ (S : List Sal) (i k : Nat), (costed f i S)[k]? = (S[k]?).map fun x => ⟨x.s, x.b, x.cap, f (i + k)⟩
  | [], _, _ => rfl
  | x :: S, i, 0 => rfl
  | x :: S, i, k + 1 => by
    simp only [costed, List.getElem?_cons_succ]
    rw [costed_get f S (i + 1) k, show i + 1 + k = i + (k + 1) by omega]
theorem costed_mem {f : Nat → Int} {n : Nat} {S : List Sal} (h : ∀ x ∈ S, x.s < n ∧ x.b < n) (i : Nat) : ∀ x ∈ costed f i S, x.s < n ∧ x.b < n := by
  intro x hx
  obtain ⟨k, hk⟩ := List.getElem?_of_mem hx
  rw [costed_get] at hk
  obtain ⟨y, hy, rfl⟩ := Option.map_eq_some_iff.1 hk
  exact h y (List.mem_of_getElem? hy)
theorem costed_caps (f : Nat → Int) : ∀ (S : List Sal) (i : Nat), caps (costed f i S) = caps S
  | [], _ => rfl
  | x :: S, i => by
    have := costed_caps f S (i + 1)
    simp only [caps, costed, List.map_cons] at this ⊢
    rw [this]
theorem costed_feas (f : Nat → Int) : ∀ (S : List Sal) (i : Nat) (m : List Int), Feas (costed f i S) m ↔ Feas S m
  | [], _, [] => Iff.rfl
  | [], _, _ :: _ => Iff.rfl
  | _ :: _, _, [] => Iff.rfl
  | x :: S, i, y :: m => by
    simp only [costed, Feas]
    rw [costed_feas f S (i + 1) m]
theorem costed_net (f : Nat → Int) (v : Nat) : ∀ (S : List Sal) (i : Nat) (m : List Int), net (costed f i S) m v = net S m v
  | [], _, _ => rfl
  | _ :: _, _, [] => rfl
  | x :: S, i, y :: m => by
    simp only [costed, net]
    rw [costed_net f v S (i + 1) m]
/-- The sum counts X, and then each sale as its place tells. -/
theorem cost_digits (X s β : Int) (N : Nat) : ∀ (S : List Sal) (i : Nat) (m : List Int), m.length = S.length → i + S.length = N → cost (costed (fun k => X + s * β ^ (N - 1 - k)) i S) m = X * sumI m + s * digits β m
  | [], _, [], _, _ => by simp [costed, cost, sumI, digits]
  | x :: S, i, y :: m, hl, hN => by
    have hl' : m.length = S.length := by simpa using hl
    have := cost_digits X s β N S (i + 1) m hl' (by simp at hN; omega)
    simp only [costed, cost, sumI, digits]
    rw [this, show N - 1 - i = m.length by simp at hN; omega, Int.add_mul, Int.mul_add, Int.mul_add, Int.mul_assoc, Int.mul_comm y]
    omega
  | [], _, _ :: _, hl, _ => by simp at hl
  | _ :: _, _, [], hl, _ => by simp at hl
theorem opt_nine {S : List Sal} {full m : List Int} (h : Opt S full m) (h9 : ∀ x ∈ S, x.cap ≤ 9) : Nine m := by
  intro y hy
  obtain ⟨i, hi⟩ := List.getElem?_of_mem hy
  have hl := feas_len h.1
  have hlt : i < S.length := by rw [← hl]; exact (List.getElem?_eq_some_iff.1 hi).1
  have := feas_get h.1 i _ y (List.getElem?_eq_getElem hlt) hi
  have := h9 _ (List.getElem_mem hlt)
  omega
/-- **What the program and the reference find is the same**: the sum first, then the earlier sales. -/
theorem closing_one {S : List Sal} {n : Nat} (hS : ∀ x ∈ S, x.s < n ∧ x.b < n) (h9 : ∀ x ∈ S, x.cap ≤ 9) {β γ X Y s : Int} (hs : 0 < s) (hβ : 10 ≤ β) (hγ : 10 ≤ γ) (hX : β ^ S.length ≤ X) (hY : γ ^ S.length ≤ Y) {m l : List Int}
    (hm : Opt (costed (fun k => s * X + s * β ^ (S.length - 1 - k)) 0 S) (caps S) m) (hl : Opt (costed (fun k => Y + 1 * γ ^ (S.length - 1 - k)) 0 S) (caps S) l) : m = l := by
  have nine : ∀ {f : Nat → Int} {m : List Int}, Opt (costed f 0 S) (caps S) m → Nine m ∧ m.length = S.length := by
    intro f m h
    refine ⟨opt_nine h ?_, ?_⟩
    · intro x hx
      obtain ⟨k, hk⟩ := List.getElem?_of_mem hx
      rw [costed_get] at hk
      obtain ⟨y, hy, rfl⟩ := Option.map_eq_some_iff.1 hk
      exact h9 y (List.mem_of_getElem? hy)
    · rw [feas_len h.1, costed_len]
  obtain ⟨n1, l1⟩ := nine hm
  obtain ⟨n2, l2⟩ := nine hl
  have h1 := opt_least (costed_mem hS 0) hm (m' := l) ((costed_feas _ _ _ _).2 ((costed_feas _ _ _ _).1 hl.1)) (fun v => by have := hl.2.1 v; rw [costed_net, costed_net] at this ⊢; exact this)
  have h2 := opt_least (costed_mem hS 0) hl (m' := m) ((costed_feas _ _ _ _).2 ((costed_feas _ _ _ _).1 hm.1)) (fun v => by have := hm.2.1 v; rw [costed_net, costed_net] at this ⊢; exact this)
  rw [cost_digits _ s β _ S 0 m l1 (by simp), cost_digits _ s β _ S 0 l l2 (by simp)] at h1
  rw [cost_digits Y 1 γ _ S 0 m l1 (by simp), cost_digits Y 1 γ _ S 0 l l2 (by simp)] at h2
  refine least_one hβ hγ (by rw [l1, l2]) n1 n2 (by rw [l1]; exact hX) (by rw [l1]; exact hY) ?_ (by simpa using h2)
  refine Int.le_of_mul_le_mul_left (a := s) ?_ hs
  rw [Int.mul_add, Int.mul_add, ← Int.mul_assoc, ← Int.mul_assoc]
  exact h1

/-! Of one sale: the sum first, then how many bales move by it (as few, or as many, as can be). -/
theorem cost_at (X s : Int) (a : Nat) : ∀ (S : List Sal) (i : Nat) (m : List Int), m.length = S.length → cost (costed (fun k => X + (if k = a then s else 0)) i S) m = X * sumI m + (if i ≤ a then s * (m[a - i]?.getD 0) else 0)
  | [], i, [], _ => by simp [costed, cost, sumI]
  | x :: S, i, y :: m, hl => by
    have hl' : m.length = S.length := by simpa using hl
    have := cost_at X s a S (i + 1) m hl'
    simp only [costed, cost, sumI]
    rw [this, Int.add_mul, Int.mul_add]
    by_cases h1 : i = a
    · subst h1
      rw [if_pos rfl, if_neg (by omega), if_pos (Nat.le_refl _)]
      simp; omega
    · by_cases h2 : i < a
      · rw [if_neg h1, if_pos (by omega), if_pos (by omega), show a - i = (a - (i + 1)) + 1 by omega]
        simp; omega
      · rw [if_neg h1, if_neg (by omega), if_neg (by omega)]
        omega
  | [], _, _ :: _, hl => by simp at hl
  | _ :: _, _, [], hl => by simp at hl
theorem range_one {S : List Sal} {n : Nat} (hS : ∀ x ∈ S, x.s < n ∧ x.b < n) (h9 : ∀ x ∈ S, x.cap ≤ 9) {X Y t e : Int} {a : Nat} (ha : a < S.length) (ht : 0 < t) (hX : 10 ≤ X) (hY : 10 ≤ Y) (he : e = 1 ∨ e = -1) {m l : List Int}
    (hm : Opt (costed (fun k => t * X + (if k = a then t * e else 0)) 0 S) (caps S) m) (hl : Opt (costed (fun k => Y + (if k = a then e else 0)) 0 S) (caps S) l) : m[a]?.getD 0 = l[a]?.getD 0 := by
  have nine : ∀ {f : Nat → Int} {m : List Int}, Opt (costed f 0 S) (caps S) m → Nine m ∧ m.length = S.length := by
    intro f m h
    refine ⟨opt_nine h ?_, ?_⟩
    · intro x hx
      obtain ⟨k, hk⟩ := List.getElem?_of_mem hx
      rw [costed_get] at hk
      obtain ⟨y, hy, rfl⟩ := Option.map_eq_some_iff.1 hk
      exact h9 y (List.mem_of_getElem? hy)
    · rw [feas_len h.1, costed_len]
  obtain ⟨n1, l1⟩ := nine hm
  obtain ⟨n2, l2⟩ := nine hl
  have h1 := opt_least (costed_mem hS 0) hm (m' := l) ((costed_feas _ _ _ _).2 ((costed_feas _ _ _ _).1 hl.1)) (fun v => by have := hl.2.1 v; rw [costed_net, costed_net] at this ⊢; exact this)
  have h2 := opt_least (costed_mem hS 0) hl (m' := m) ((costed_feas _ _ _ _).2 ((costed_feas _ _ _ _).1 hm.1)) (fun v => by have := hm.2.1 v; rw [costed_net, costed_net] at this ⊢; exact this)
  rw [cost_at _ _ a S 0 m l1, cost_at _ _ a S 0 l l2] at h1
  rw [cost_at _ _ a S 0 m l1, cost_at _ _ a S 0 l l2] at h2
  simp only [Nat.zero_le, if_true, Nat.sub_zero] at h1 h2
  have b1 := n1 (m[a]?.getD 0) (by rw [List.getElem?_eq_getElem (by omega)]; simp)
  have b2 := n2 (l[a]?.getD 0) (by rw [List.getElem?_eq_getElem (by omega)]; simp)
  generalize m[a]?.getD 0 = p at *
  generalize l[a]?.getD 0 = q at *
  have h1' : X * sumI m + e * p ≤ X * sumI l + e * q := by
    refine Int.le_of_mul_le_mul_left (a := t) ?_ ht
    rw [Int.mul_add, Int.mul_add, ← Int.mul_assoc, ← Int.mul_assoc, ← Int.mul_assoc, ← Int.mul_assoc]
    exact h1
  have hsum : sumI m = sumI l := by
    rcases Int.lt_trichotomy (sumI m) (sumI l) with h | h | h
    · have : Y * (sumI m + 1) ≤ Y * sumI l := Int.mul_le_mul_of_nonneg_left (by omega) (by omega)
      rw [Int.mul_add] at this
      rcases he with rfl | rfl <;> omega
    · exact h
    · have : X * (sumI l + 1) ≤ X * sumI m := Int.mul_le_mul_of_nonneg_left (by omega) (by omega)
      rw [Int.mul_add] at this
      rcases he with rfl | rfl <;> omega
  rw [hsum] at h1' h2
  rcases he with rfl | rfl <;> omega

/-! The numbers for bales alone. -/
theorem walk_unit {X E : Int} {e : Nat → Int} (he : ∀ k, -E ≤ e k ∧ e k ≤ E) {S : List Sal} {m : List Int} {u v : Nat} {W : Int} {k : Nat} (h : Walk (resArcs 0 (costed (fun _ => 1) 0 S) m) u v W k) :
    ∃ W', Walk (resArcs 0 (costed (fun k => X + e k) 0 S) m) u v W' k ∧ W' ≤ X * W + k * E := by
  induction h with
  | nil => exact ⟨0, .nil _, by simp⟩
  | @snoc x W k a _ ha hs ih =>
    obtain ⟨W', hw, hle⟩ := ih
    obtain ⟨i, z, y, h1, h2, h3⟩ := (mem_res _ m 0 a).1 ha
    rw [costed_get] at h1
    obtain ⟨z, hz, rfl⟩ := Option.map_eq_some_iff.1 h1
    rw [Nat.zero_add] at h3
    have hi := he (0 + i)
    have hz' : (costed (fun k => X + e k) 0 S)[i]? = some ⟨z.s, z.b, z.cap, X + e (0 + i)⟩ := by rw [costed_get, hz]; rfl
    rcases h3 with ⟨rfl, h3⟩ | ⟨rfl, h3⟩
    · have := Walk.snoc (fwd ⟨z.s, z.b, z.cap, X + e (0 + i)⟩ i) hw ((mem_res _ m 0 _).2 ⟨i, _, y, hz', h2, .inl ⟨by rw [Nat.zero_add], h3⟩⟩) hs
      refine ⟨_, this, ?_⟩
      simp only [fwd, Int.mul_add, Int.add_mul, Int.natCast_succ]
      omega
    · have := Walk.snoc (bwd ⟨z.s, z.b, z.cap, X + e (0 + i)⟩ i) hw ((mem_res _ m 0 _).2 ⟨i, _, y, hz', h2, .inr ⟨by rw [Nat.zero_add], h3⟩⟩) hs
      refine ⟨_, this, ?_⟩
      simp only [bwd, Int.mul_add, Int.add_mul, Int.natCast_succ]
      omega
/-- **If a closing is the least by cost, there are numbers that prove that its sum is.** -/
theorem unit_pot {S : List Sal} {n : Nat} (hS : ∀ x ∈ S, x.s < n ∧ x.b < n) {X E : Int} {e : Nat → Int} (hE : 0 ≤ E) (hX : n * E < X) (he : ∀ k, -E ≤ e k ∧ e k ≤ E) {m : List Int} {π : Nat → Int} (hπ : Pot (resArcs 0 (costed (fun k => X + e k) 0 S) m) π) :
    ∃ ρ, Pot (resArcs 0 (costed (fun _ => 1) 0 S) m) ρ := by
  have hS1 := costed_mem (f := fun _ => 1) hS 0
  have hlt := res_lt hS1 m
  have hX0 : 0 ≤ X := by have : (0 : Int) ≤ n * E := Int.mul_nonneg (by omega) hE; omega
  have hend : ∀ a ∈ resArcs 0 (costed (fun _ => 1) 0 S) m, ∀ x, (bf0 (costed (fun _ => 1) 0 S) n m).d a.src = some x → lessO (x + a.w) ((bf0 (costed (fun _ => 1) 0 S) n m).d a.dst) = false := by
    intro a ha x hx
    cases hl : lessO (x + a.w) ((bf0 (costed (fun _ => 1) 0 S) n m).d a.dst) with
    | false => rfl
    | true =>
      exfalso
      have hI := (Inv.passes (resArcs 0 (costed (fun _ => 1) 0 S) m) (fun _ => true) n).relax ha
      have hd : (relax (bf0 (costed (fun _ => 1) 0 S) n m) a).d a.dst = some (x + a.w) := by
        unfold relax
        rw [hx]
        simp only [hl, if_true, upd_self]
      obtain ⟨u, t, W, _, h2, h3, h4, h5⟩ := ring_of (fun a ha => (hlt a ha).1) hI (hlt a ha).2 hd hl
      obtain ⟨W', hw, hle⟩ := walk_unit (X := X) he (hI.walk h4)
      have := walk_pot hπ hw
      have h6 : X * W ≤ X * (-1) := Int.mul_le_mul_of_nonneg_left (by omega) hX0
      have h7 : (t : Int) * E ≤ n * E := Int.mul_le_mul_of_nonneg_right (by omega) hE
      omega
  refine ⟨fun v => ((bf0 (costed (fun _ => 1) 0 S) n m).d v).getD 0, fun a ha => ?_⟩
  have hk : ∀ v, ∃ y, (bf0 (costed (fun _ => 1) 0 S) n m).d v = some y := fun v => by
    obtain ⟨a, ha, _⟩ := passes_better (resArcs 0 (costed (fun _ => 1) 0 S) m) (init0 fun _ => true) v n 0 rfl
    exact ⟨a, ha⟩
  obtain ⟨x, hx⟩ := hk a.src
  obtain ⟨y, hy⟩ := hk a.dst
  have := hend a ha x hx
  rw [hy] at this
  simp [lessO] at this
  show ((bf0 (costed (fun _ => 1) 0 S) n m).d a.dst).getD 0 ≤ ((bf0 (costed (fun _ => 1) 0 S) n m).d a.src).getD 0 + a.w
  rw [hx, hy]
  exact this
end Go.Proofs.YtafdbgielmlihaaDoor
/- The closing of a chain, in plain words: the sales as arcs, what each house gets, and that there is a closing of the least cost. -/
namespace Go.Proofs.YtafdbgielmlihaaDoor
open Go.RowKit Go.Shelf

/-- The sales with costs, houses by their places. -/
def salOf (c : Chn) (x : Sale) : Sal := ⟨(houseI c x.seller).toNat, (houseI c x.buyer).toNat, x.bales, 0⟩
def salsOf (c : Chn) : List Sal := c.sales.map (salOf c)
/-- .. the i-th at the cost f i. -/
def salsAt (c : Chn) (f : Nat → Int) : List Sal := costed f 0 (salsOf c)
def balesOf (c : Chn) : List Int := c.sales.map (·.bales)
theorem caps_sals (c : Chn) : caps (salsOf c) = balesOf c := by
  unfold caps salsOf balesOf
  rw [List.map_map]
  rfl
theorem sals_len (c : Chn) : (salsOf c).length = c.sales.length := by unfold salsOf; rw [List.length_map]
theorem at_len (c : Chn) (f : Nat → Int) : (salsAt c f).length = c.sales.length := by unfold salsAt; rw [costed_len, sals_len]
theorem houseI_lt {c : Chn} {id : Int} (h : id ∈ c.houses) : 0 ≤ houseI c id ∧ houseI c id < c.houses.length := by
  unfold houseI idxF
  cases hf : c.houses.findIdx? (fun h => decide (h = id)) with
  | none =>
    rw [List.findIdx?_eq_none_iff] at hf
    have := hf id h
    simp at this
  | some i =>
    rw [List.findIdx?_eq_some_iff_getElem] at hf
    obtain ⟨hi, _⟩ := hf
    simp
    exact hi
theorem sals_lt {c : Chn} (h : Right c) : ∀ x ∈ salsOf c, x.s < c.houses.length ∧ x.b < c.houses.length := by
  intro x hx
  unfold salsOf at hx
  obtain ⟨y, hy, rfl⟩ := List.mem_map.1 hx
  obtain ⟨_, h1, h2, _⟩ := h.sale y hy
  have a := houseI_lt h1
  have b := houseI_lt h2
  simp only [salOf]
  omega
theorem sals_cap {c : Chn} (h : Right c) : ∀ x ∈ salsOf c, 0 ≤ x.cap ∧ x.cap ≤ 9 := by
  intro x hx
  unfold salsOf at hx
  obtain ⟨y, hy, rfl⟩ := List.mem_map.1 hx
  obtain ⟨_, _, _, h1, _⟩ := h.sale y hy
  simp only [salOf]
  omega
theorem feas_caps : ∀ (S : List Sal), (∀ x ∈ S, 0 ≤ x.cap) → Feas S (caps S)
  | [], _ => trivial
  | x :: S, h => ⟨⟨h x (by simp), Int.le_refl _⟩, feas_caps S fun y hy => h y (by simp [hy])⟩
/-- What can move costs no less than this. -/
def floorC : List Sal → Int
  | [] => 0
  | x :: S => min 0 (x.c * x.cap) + floorC S
theorem cost_floor : ∀ (S : List Sal) (m : List Int), Feas S m → floorC S ≤ cost S m
  | [], [], _ => Int.le_refl _
  | x :: S, y :: m, h => by
    have ih := cost_floor S m h.2
    simp only [floorC, cost]
    have : min 0 (x.c * x.cap) ≤ x.c * y := by
      by_cases hc : 0 ≤ x.c
      · have := Int.mul_nonneg hc h.1.1; omega
      · have : x.c * x.cap ≤ x.c * y := Int.mul_le_mul_of_nonpos_left (by omega) h.1.2
        omega
    omega
  | [], _ :: _, h => h.elim
  | _ :: _, [], h => h.elim
/-- **There is a closing of the least cost.** -/
theorem opt_exists {S : List Sal} {n : Nat} (hS : ∀ x ∈ S, x.s < n ∧ x.b < n) (h0 : ∀ x ∈ S, 0 ≤ x.cap) : ∃ m, Opt S (caps S) m := by
  have key : ∀ (k : Nat) (m : List Int), (cost S m - floorC S).toNat ≤ k → Feas S m → (∀ v, net S m v = net S (caps S) v) → ∃ m, Opt S (caps S) m := by
    intro k
    induction k with
    | zero =>
      intro m hk hF hn
      refine Classical.byContradiction fun hno => ?_
      have hf := cost_floor S m hF
      have : ∃ m', Feas S m' ∧ cost S m' < cost S m := by
        refine Classical.byContradiction fun hnx => ?_
        refine hno ⟨m, ring_end (n := n) hF hn fun a ha x hx => ?_⟩
        cases hl : lessO (x + a.w) ((bf0 S n m).d a.dst) with
        | false => rfl
        | true =>
          exfalso
          have hlt := res_lt hS m
          have hd1 : ∃ y, (bf1 S n m).d a.dst = some y ∧ y ≤ x + a.w := by
            have := pass_at (resArcs 0 S m) (bf0 S n m) a ha x hx
            exact this
          obtain ⟨y, hy, hle⟩ := hd1
          have hb : lessO y ((bf0 S n m).d a.dst) = true := by
            cases hz : (bf0 S n m).d a.dst with
            | none => rfl
            | some z => rw [hz] at hl; simp [lessO] at hl ⊢; omega
          obtain ⟨u, _, _, hu, _⟩ := ring_of (fun a ha => (hlt a ha).1) (Inv.passes (resArcs 0 S m) (fun _ => true) (n + 1)) (hlt a ha).2 hy hb
          obtain ⟨t, _, _, _, _, _, h1, h2, h3⟩ := ring_step hS hF (hlt a ha).2 hy hb hu
          exact hnx ⟨_, h1, h3⟩
      obtain ⟨m', hF', hlt⟩ := this
      have := cost_floor S m' hF'
      omega
    | succ k ih =>
      intro m hk hF hn
      refine Classical.byContradiction fun hno => ?_
      refine hno ⟨m, ring_end (n := n) hF hn fun a ha x hx => ?_⟩
      cases hl : lessO (x + a.w) ((bf0 S n m).d a.dst) with
      | false => rfl
      | true =>
        exfalso
        have hlt := res_lt hS m
        obtain ⟨y, hy, hle⟩ := pass_at (resArcs 0 S m) (bf0 S n m) a ha x hx
        have hb : lessO y ((bf0 S n m).d a.dst) = true := by
          cases hz : (bf0 S n m).d a.dst with
          | none => rfl
          | some z => rw [hz] at hl; simp [lessO] at hl ⊢; omega
        obtain ⟨u, _, _, hu, _⟩ := ring_of (fun a ha => (hlt a ha).1) (Inv.passes (resArcs 0 S m) (fun _ => true) (n + 1)) (hlt a ha).2 hy hb
        obtain ⟨t, _, _, _, _, _, h1, h2, h3⟩ := ring_step hS hF (hlt a ha).2 hy hb hu
        have := cost_floor S _ h1
        exact hno (ih _ (by omega) h1 fun v => (h2 v).trans (hn v))
  exact key _ (caps S) (Nat.le_refl _) (feas_caps S h0) fun _ => rfl

theorem costed_congr {f g : Nat → Int} : ∀ (S : List Sal) (i : Nat), (∀ k, i ≤ k → k < i + S.length → f k = g k) → costed f i S = costed g i S
  | [], _, _ => rfl
  | x :: S, i, h => by
    simp only [costed]
    rw [h i (Nat.le_refl _) (by simp), costed_congr S (i + 1) fun k h1 h2 => h k (by omega) (by simp; omega)]
theorem at_mem {c : Chn} (h : Right c) (f : Nat → Int) : ∀ x ∈ salsAt c f, x.s < c.houses.length ∧ x.b < c.houses.length := costed_mem (sals_lt h) 0
theorem at_cap {c : Chn} (h : Right c) (f : Nat → Int) : ∀ x ∈ salsAt c f, 0 ≤ x.cap ∧ x.cap ≤ 9 := by
  intro x hx
  obtain ⟨k, hk⟩ := List.getElem?_of_mem hx
  unfold salsAt at hk
  rw [costed_get] at hk
  obtain ⟨y, hy, rfl⟩ := Option.map_eq_some_iff.1 hk
  exact sals_cap h y (List.mem_of_getElem? hy)
theorem at_caps (c : Chn) (f : Nat → Int) : caps (salsAt c f) = balesOf c := by unfold salsAt; rw [costed_caps, caps_sals]
theorem at_exists {c : Chn} (h : Right c) (f : Nat → Int) : ∃ m, Opt (salsAt c f) (balesOf c) m := by
  have := opt_exists (at_mem h f) (fun x hx => (at_cap h f x hx).1)
  rwa [at_caps] at this

/-- What a bale costs by a sale: for the program, for the reference. -/
def progF (k : Nat) : Int := 1000 ^ 11 + 1000 ^ (10 - k)
def refF (N k : Nat) : Int := 10000000000000 + 10 ^ (N - 1 - k)
theorem progF_form {c : Chn} (hN : c.sales.length ≤ 11) : salsAt c progF = costed (fun k => 1000 ^ (11 - c.sales.length) * 1000 ^ c.sales.length + 1000 ^ (11 - c.sales.length) * (1000 : Int) ^ ((salsOf c).length - 1 - k)) 0 (salsOf c) := by
  unfold salsAt
  refine costed_congr _ _ fun k _ hk => ?_
  rw [sals_len] at hk ⊢
  unfold progF
  rw [← Int.pow_add, ← Int.pow_add, show 11 - c.sales.length + c.sales.length = 11 by omega, show 11 - c.sales.length + (c.sales.length - 1 - k) = 10 - k by omega]
theorem refF_form (c : Chn) : salsAt c (refF c.sales.length) = costed (fun k => 10000000000000 + 1 * (10 : Int) ^ ((salsOf c).length - 1 - k)) 0 (salsOf c) := by
  unfold salsAt
  refine costed_congr _ _ fun k _ hk => ?_
  rw [sals_len]
  unfold refF
  rw [Int.one_mul]
theorem pow10_le {n : Nat} (h : n ≤ 11) : (10 : Int) ^ n ≤ 10000000000000 := by
  have : (10 : Int) ^ n * 1 ≤ 10 ^ n * 10 ^ (11 - n) := Int.mul_le_mul_of_nonneg_left (by have := Int.pow_pos (n := 10) (m := 11 - n) (by decide); omega) (Int.le_of_lt (Int.pow_pos (by decide)))
  rw [← Int.pow_add, show n + (11 - n) = 11 by omega] at this
  omega
/-- The closing. -/
def IsClose (c : Chn) (l : List Int) : Prop := Opt (salsAt c (refF c.sales.length)) (balesOf c) l
theorem close_exists {c : Chn} (h : Right c) : ∃ l, IsClose c l := at_exists h _
/-- **What the program finds is the closing.** -/
theorem close_prog {c : Chn} (h : Right c) (hN : c.sales.length ≤ 11) {m l : List Int} (hm : Opt (salsAt c progF) (balesOf c) m) (h1 : IsClose c l) : m = l := by
  unfold IsClose at h1
  rw [progF_form hN] at hm
  rw [refF_form] at h1
  rw [← caps_sals] at hm h1
  exact closing_one (sals_lt h) (fun x hx => (sals_cap h x hx).2) (Int.pow_pos (by decide)) (by decide) (by decide) (by rw [sals_len]; exact Int.le_refl _) (by rw [sals_len]; exact pow10_le hN) hm h1
/-- .. and nothing, where a chain is not valid. -/
def CloseOf (c : Chn) (l : List Int) : Prop := (checkP c = true → IsClose c l) ∧ (checkP c = false → l = [])
theorem closeOf_exists (c : Chn) : ∃ l, CloseOf c l := by
  cases h : checkP c with
  | true =>
    obtain ⟨l, hl⟩ := close_exists (check_right h).1
    exact ⟨l, fun _ => hl, fun h' => by rw [h] at h'; cases h'⟩
  | false => exact ⟨[], fun h' => (by rw [h] at h'; cases h'), fun _ => rfl⟩

/-! Of one sale. -/
def progR (e : Int) (a k : Nat) : Int := 1000 ^ 11 + (if k = a then 1000 ^ 10 * e else 0)
def refR (e : Int) (a k : Nat) : Int := 1000 + (if k = a then e else 0)
theorem range_eq {c : Chn} (h : Right c) {e : Int} (he : e = 1 ∨ e = -1) {a : Nat} (ha : a < c.sales.length) {m l : List Int} (hm : Opt (salsAt c (progR e a)) (balesOf c) m) (hl : Opt (salsAt c (refR e a)) (balesOf c) l) : m[a]?.getD 0 = l[a]?.getD 0 := by
  have e1 : salsAt c (progR e a) = costed (fun k => 1000 ^ 10 * 1000 + (if k = a then 1000 ^ 10 * e else 0)) 0 (salsOf c) := by
    unfold salsAt
    exact costed_congr _ _ fun k _ _ => rfl
  have e2 : salsAt c (refR e a) = costed (fun k => 1000 + (if k = a then e else 0)) 0 (salsOf c) := rfl
  rw [e1] at hm
  rw [e2] at hl
  rw [← caps_sals] at hm hl
  exact range_one (sals_lt h) (fun x hx => (sals_cap h x hx).2) (by rw [sals_len]; exact ha) (Int.pow_pos (by decide)) (by decide) (by decide) he hm hl
/-- How many bales move by a sale, at least (e = 1), at most (e = -1). -/
def IsRange (c : Chn) (e : Int) (a : Nat) (v : Int) : Prop := ∃ l, Opt (salsAt c (refR e a)) (balesOf c) l ∧ l[a]?.getD 0 = v
theorem range_exists {c : Chn} (h : Right c) (e : Int) (a : Nat) : ∃ v, IsRange c e a v := by
  obtain ⟨l, hl⟩ := at_exists h (refR e a)
  exact ⟨_, l, hl, rfl⟩
theorem range_prog {c : Chn} (h : Right c) {e : Int} (he : e = 1 ∨ e = -1) {a : Nat} (ha : a < c.sales.length) {m : List Int} (hm : Opt (salsAt c (progR e a)) (balesOf c) m) {v : Int} (hv : IsRange c e a v) : m[a]?.getD 0 = v := by
  obtain ⟨l, hl, rfl⟩ := hv
  exact range_eq h he ha hm hl
end Go.Proofs.YtafdbgielmlihaaDoor
/- A region that draws its order and whose last operation stands behind all others: that one is walked by itself, when the others are done. -/
namespace Go.Proofs.YtafdbgielmlihaaDoor
open Go.RowKit Go.Shelf

def lastQ (P : Program) (oL : Oper) (Q : Exit → Act → World → Prop) : Exit → Act → World → Prop := fun x A W =>
  match x with
  | .normal => oL.wp P A W (fun A' W' => Q .normal A' W') Q ∨ (oL.asks P A W ∧ LetsOut Q)
  | x => Q x A W
/-- Every operation but the last has one behind it. -/
def lastB (l : List Oper) : Bool :=
  (List.range (l.length - 1)).all fun j => l.zipIdx.any fun (o, k) => decide (j < k) && o.after.toList.any (fun e => e.on == j && Region.binds .any e)

section
variable {P : Program} {l : List Oper} {oL : Oper} {Q : Exit → Act → World → Prop}
theorem wp_lastQ {o : Oper} {a : Act} {w : World} {K : Act → World → Prop} (hh : o.wp P a w K (lastQ P oL Q)) : o.wp P a w K Q := by
  unfold Oper.wp at *
  generalize (execOp a.eval o).run P w = r at *
  cases r with
  | ok n w' =>
    cases n <;> simp only [Oper.upon] at hh ⊢ <;>
      first
        | exact hh
        | exact Calls.mono hh (fun e w'' he => by cases e <;> exact he)
  | halt x w' => cases x <;> simp only [Oper.upon] at hh ⊢ <;> exact hh

theorem push_old {listed : Array Bool} {j : Nat} (hj : j < listed.size) (b : Bool) : (listed.push false).getD j b = listed.getD j b := by
  simp [Array.getD_eq_getD_getElem?, Array.getElem?_push, hj, Nat.ne_of_lt hj]

theorem tame_lastL (hback : ∀ (i : Nat) (o : Oper), (l ++ [oL])[i]? = some o → (∀ e ∈ o.after, Region.binds .any e = true → e.on < i) ∧ ∀ (j : Nat) (b : Bool), o.guard = some (j, b) → j < i) (hL : lastB (l ++ [oL]) = true) (hgL : oL.guard = none) :
    ∀ (fuel : Nat) (listed : Array Bool) (A : Act) (W : World), listed.size = l.length →
      (∀ j o, l[j]? = some o → listed.getD j false = true → ∀ e ∈ o.after, Region.binds .any e = true → listed.getD e.on false = true) →
      wpAny P .any l.toArray (lastQ P oL Q) fuel listed A W → wpAny P .any (l ++ [oL]).toArray Q (fuel + 1) (listed.push false) A W := by
  have hchain : ∀ j, j < l.length → ∃ k o, (l ++ [oL])[k]? = some o ∧ j < k ∧ ∃ e ∈ o.after, e.on = j ∧ Region.binds .any e = true := by
    intro j hj
    unfold lastB at hL
    rw [List.all_eq_true] at hL
    have h := hL j (by simp; exact hj)
    rw [List.any_eq_true] at h
    obtain ⟨⟨o, k⟩, hm, h⟩ := h
    rw [List.mem_zipIdx_iff_getElem?] at hm
    simp only [Bool.and_eq_true, decide_eq_true_eq, List.any_eq_true, beq_iff_eq] at h
    obtain ⟨h1, e, he, h2, h3⟩ := h
    exact ⟨k, o, by simpa using hm, h1, e, Array.mem_toList_iff.1 he, h2, h3⟩
  -- all but the last are listed once the last is ready
  have hall : ∀ (listed : Array Bool), listed.size = l.length → (∀ j o, l[j]? = some o → listed.getD j false = true → ∀ e ∈ o.after, Region.binds .any e = true → listed.getD e.on false = true) →
      (∀ e ∈ oL.after, Region.binds .any e = true → (listed.push false).getD e.on false = true) → ∀ j, j < l.length → listed.getD j false = true := by
    intro listed hs hcl hd
    suffices ∀ d j, j < l.length → l.length - j ≤ d → listed.getD j false = true from fun j hj => this _ j hj (Nat.le_refl _)
    intro d
    induction d with
    | zero => intro j hj h; omega
    | succ d ih =>
      intro j hj h
      obtain ⟨k, o, hk, hjk, e, he, h2, h3⟩ := hchain j hj
      by_cases hkl : k < l.length
      · rw [List.getElem?_append_left hkl] at hk
        have := hcl k o hk (ih k hkl (by omega)) e he h3
        rw [h2] at this; exact this
      · have hk' : k = l.length := by have := (List.getElem?_eq_some_iff.1 hk).1; simp at this; omega
        subst hk'
        simp at hk
        subst hk
        have := hd e he h3
        rw [h2, push_old (by omega)] at this
        exact this
  have hnone : ∀ listed : Array Bool, listed.size = l.length → (∀ j, j < l.length → listed.getD j false = true) → Region.ready .any l.toArray listed = [] := by
    intro listed hs h
    rw [List.eq_nil_iff_forall_not_mem]
    intro k hk
    rw [mem_ready] at hk
    obtain ⟨h0, o, ho, _⟩ := hk
    have hkl : k < l.length := by simpa using (Array.getElem?_eq_some_iff.1 ho).1
    have h1 := h k hkl
    have hks : k < listed.size := by omega
    simp [Array.getD_eq_getD_getElem?, hks] at h0 h1
    rw [h0] at h1; cases h1
  have hnoneL : ∀ listed : Array Bool, listed.size = l.length → (∀ j, j < l.length → listed.getD j false = true) → Region.ready .any (l ++ [oL]).toArray ((listed.push false).setIfInBounds l.length true) = [] := by
    intro listed hs h
    rw [List.eq_nil_iff_forall_not_mem]
    intro k hk
    rw [mem_ready] at hk
    obtain ⟨h0, o, ho, _⟩ := hk
    have hkl : k < l.length + 1 := by simpa using (Array.getElem?_eq_some_iff.1 ho).1
    by_cases hk2 : k = l.length
    · subst hk2
      simp [Array.getD_eq_getD_getElem?, hs] at h0
    · rw [getD_set_ne true (Ne.symm hk2), push_old (by omega)] at h0
      have h1 := h k (by omega)
      have hks : k < listed.size := by omega
      simp [Array.getD_eq_getD_getElem?, hks] at h0 h1
      rw [h0] at h1; cases h1
  -- something is ready as long as the last is not listed
  have hsome : ∀ listed : Array Bool, listed.size = l.length → Region.ready .any (l ++ [oL]).toArray (listed.push false) ≠ [] := by
    intro listed hs hr
    have key : ∀ k, k < l.length → listed.getD k false = true := by
      intro k
      induction k using Nat.strongRecOn with
      | _ k ih =>
        intro hk
        cases hv : listed.getD k false with
        | true => rfl
        | false =>
          exfalso
          have hmem : k ∈ Region.ready .any (l ++ [oL]).toArray (listed.push false) := by
            rw [mem_ready]
            have hkl : k < listed.size := by omega
            have hget : (l ++ [oL])[k]? = some l[k] := by rw [List.getElem?_append_left hk]; simp
            refine ⟨by rw [push_old hkl]; simpa [Array.getD_eq_getD_getElem?, hkl] using hv, l[k], by simpa using hget, fun e he hb => ?_⟩
            have := (hback k _ hget).1 e he hb
            rw [push_old (by omega)]
            exact ih e.on this (by omega)
          rw [hr] at hmem
          cases hmem
    have hmem : l.length ∈ Region.ready .any (l ++ [oL]).toArray (listed.push false) := by
      rw [mem_ready]
      refine ⟨by simp [Array.getD_eq_getD_getElem?, ← hs], oL, by simp, fun e he hb => ?_⟩
      have := (hback l.length oL (by simp)).1 e he hb
      rw [push_old (by omega)]
      exact key e.on this
    rw [hr] at hmem
    cases hmem
  -- the step of the last
  have hlast : ∀ (fuel : Nat) (listed : Array Bool) (A : Act) (W : World), listed.size = l.length → (∀ j o, l[j]? = some o → listed.getD j false = true → ∀ e ∈ o.after, Region.binds .any e = true → listed.getD e.on false = true) →
      (Region.ready .any l.toArray listed = [] → lastQ P oL Q .normal A W) → l.length ∈ Region.ready .any (l ++ [oL]).toArray (listed.push false) →
      wpOp P (l ++ [oL]).toArray Q l.length (wpAny P .any (l ++ [oL]).toArray Q fuel ((listed.push false).setIfInBounds l.length true)) A W := by
    intro fuel listed A W hs hcl hq hm
    rw [mem_ready] at hm
    obtain ⟨_, o, ho, hd⟩ := hm
    have hoL : o = oL := by simpa using ho.symm
    subst hoL
    have ha := hall listed hs hcl hd
    have h := hq (hnone listed hs ha)
    unfold wpOp
    simp only [ho]
    have hw : Region.wanted o (yielded (l ++ [o]).toArray A.tmps) = true := by simp [Region.wanted, hgL]
    rw [hw, if_pos rfl]
    refine h.imp (Oper.wp_mono (fun A' W' h' => ?_)) id
    have hr := hnoneL listed hs ha
    cases fuel with
    | zero => exact ⟨hr, h'⟩
    | succ f => exact ⟨fun _ => h', fun i hi => by rw [hr] at hi; cases hi⟩
  have hidx : ∀ (listed : Array Bool) (i : Nat), i ∈ Region.ready .any (l ++ [oL]).toArray (listed.push false) → i < l.length ∨ i = l.length := by
    intro listed i hi
    rw [mem_ready] at hi
    obtain ⟨_, o, ho, _⟩ := hi
    have : i < l.length + 1 := by simpa using (Array.getElem?_eq_some_iff.1 ho).1
    omega
  have hdown : ∀ (listed : Array Bool) (i : Nat), listed.size = l.length → i < l.length → i ∈ Region.ready .any (l ++ [oL]).toArray (listed.push false) → i ∈ Region.ready .any l.toArray listed := by
    intro listed i hs hi hm
    rw [mem_ready] at hm ⊢
    obtain ⟨h0, o, ho, hd⟩ := hm
    have hget : (l ++ [oL])[i]? = some o := by simpa using ho
    refine ⟨by rw [push_old (by omega)] at h0; exact h0, o, ?_, fun e he hb => ?_⟩
    · rw [List.getElem?_append_left hi] at hget; simpa using hget
    · have := (hback i o hget).1 e he hb
      have h := hd e he hb
      rw [push_old (by omega)] at h
      exact h
  intro fuel
  induction fuel with
  | zero =>
    intro listed A W hs hcl h
    refine ⟨fun hr => absurd hr (hsome listed hs), fun i hi => ?_⟩
    rcases hidx listed i hi with hlt | rfl
    · have := hdown listed i hs hlt hi
      rw [h.1] at this; cases this
    · exact hlast 0 listed A W hs hcl (fun _ => h.2) hi
  | succ fuel ih =>
    intro listed A W hs hcl h
    refine ⟨fun hr => absurd hr (hsome listed hs), fun i hi => ?_⟩
    rcases hidx listed i hi with hlt | rfl
    · have hdn := hdown listed i hs hlt hi
      have hstep := h.2 i hdn
      have hnext : ∀ A' W', wpAny P .any l.toArray (lastQ P oL Q) fuel (listed.setIfInBounds i true) A' W' → wpAny P .any (l ++ [oL]).toArray Q (fuel + 1) ((listed.push false).setIfInBounds i true) A' W' := by
        intro A' W' h'
        have e1 : (listed.push false).setIfInBounds i true = (listed.setIfInBounds i true).push false := by
          apply Array.ext_getElem?
          intro j
          simp only [Array.getElem?_setIfInBounds, Array.getElem?_push, Array.size_push, Array.size_setIfInBounds]
          by_cases h1 : i = j
          · subst h1
            have : ¬ i = listed.size := by omega
            simp [this, show i < listed.size by omega, show i < listed.size + 1 by omega]
          · simp [h1]
        rw [e1]
        refine ih _ A' W' (by simpa using hs) ?_ h'
        intro j o ho hj e he hb
        by_cases hji : j = i
        · subst hji
          rw [mem_ready] at hdn
          obtain ⟨_, o', ho', hd⟩ := hdn
          have : o' = o := by
            have h2 : l[j]? = some o' := by simpa using ho'
            rw [ho] at h2; injection h2 with h2; exact h2.symm
          subst this
          have h3 := hd e he hb
          by_cases hej : e.on = j
          · rw [hej]; simp [Array.getD_eq_getD_getElem?, show j < listed.size by omega]
          · rw [getD_set_ne false (Ne.symm hej)]; exact h3
        · rw [getD_set_ne false (Ne.symm hji)] at hj
          have h3 := hcl j o ho hj e he hb
          by_cases hej : e.on = i
          · rw [hej]; simp [Array.getD_eq_getD_getElem?, show i < listed.size by omega]
          · rw [getD_set_ne false (Ne.symm hej)]; exact h3
      unfold wpOp at hstep ⊢
      have hg1 : l.toArray[i]? = some l[i] := by simp [hlt]
      have hg2 : (l ++ [oL]).toArray[i]? = some l[i] := by simp [List.getElem?_append_left hlt]
      have hgb := (hback i l[i] (by simpa using hg2)).2
      simp only [hg1] at hstep
      simp only [hg2]
      have hw : Region.wanted l[i] (yielded (l ++ [oL]).toArray A.tmps) = Region.wanted l[i] (yielded l.toArray A.tmps) := by
        unfold Region.wanted
        cases hg : (l[i]).guard with
        | none => rfl
        | some jb =>
          obtain ⟨j, b⟩ := jb
          have hj := hgb j b hg
          have : yielded (l ++ [oL]).toArray A.tmps j = yielded l.toArray A.tmps j := by
            unfold yielded
            simp [List.getElem?_append_left (show j < l.length by omega)]
          simp only [this]
      rw [hw]
      cases hq : Region.wanted l[i] (yielded l.toArray A.tmps) with
      | false =>
        rw [hq] at hstep
        exact hnext _ _ hstep
      | true =>
        rw [hq] at hstep
        simp only [if_true] at hstep ⊢
        exact hstep.imp (fun h => Oper.wp_mono hnext (wp_lastQ h)) (fun h => ⟨h.1, h.2⟩)
    · exact hlast (fuel + 1) listed A W hs hcl h.1 hi
end

/-- **A REGION THAT DRAWS ITS ORDER, AND ENDS IN ONE OPERATION THAT STANDS BEHIND ALL OTHERS.** -/
theorem wp_region_tame_last {P : Program} {id : Nat} {Q : Exit → Act → World → Prop} {w : World} {a0 : Act} {l : List Oper} {oL : Oper} (C : World → Prop) (R : World → World → Prop) (hm : P.follows .mixedOrders = true) (n : Nat) (hn : a0.tmps.size = n)
    (hB : tameB (l ++ [oL]) n = true) (hB' : tameB l n = true) (hL : lastB (l ++ [oL]) = true) (hgL : oL.guard = none) (hC : C w.drew)
    (h : wpTame P C R (l.map (·.dst)) a0 (fun A W => oL.wp P A W (fun A' W' => Q .normal A' W') Q ∨ (oL.asks P A W ∧ LetsOut Q)) l.length l []) : (Code.region id (l ++ [oL]).toArray true).wp P Q a0 w := by
  subst hn
  obtain ⟨G, hlen, _, hfin, hops⟩ := wpTame_facts l [] h
  have h1 := tame_any (Q := lastQ P oL Q) (Qn := fun A W => oL.wp P A W (fun A' W' => Q .normal A' W') Q ∨ (oL.asks P A W ∧ LetsOut Q)) (fun _ _ h => h) hB' G (by simpa using hlen) hfin (by simpa using hops) l.length (Array.replicate l.length false) a0 w.drew (by simp)
    (Nat.le_trans (List.length_filter_le _ _) (by simp)) hC ⟨rfl, rfl, fun _ _ => rfl⟩ (by
      intro j hj
      have : (Array.replicate l.length false).getD j false = false := by
        rw [Array.getD_eq_getD_getElem?, Array.getElem?_replicate]; split <;> rfl
      rw [this] at hj
      cases hj)
  have hback : ∀ (i : Nat) (o : Oper), (l ++ [oL])[i]? = some o → (∀ e ∈ o.after, Region.binds .any e = true → e.on < i) ∧ ∀ (j : Nat) (b : Bool), o.guard = some (j, b) → j < i := by
    intro i o hi
    unfold tameB at hB
    rw [Bool.and_eq_true, List.all_eq_true] at hB
    have h := hB.1 (o, i) (by rw [List.mem_zipIdx_iff_getElem?]; simpa using hi)
    simp only [Bool.and_eq_true] at h
    obtain ⟨⟨h1, h2⟩, h3⟩ := h
    refine ⟨fun e he hbd => ?_, fun j b hg => ?_⟩
    · rw [List.all_eq_true] at h1
      have := h1 e (Array.mem_toList_iff.2 he)
      simpa [hbd] using this
    · rw [hg] at h3
      simp only [Bool.and_eq_true, decide_eq_true_eq] at h3
      exact h3.1
  refine wp_region_any hm ?_
  have h2 := tame_lastL (P := P) (Q := Q) hback hL hgL _ _ _ _ (by simp) (by
    intro j o ho hj
    have : (Array.replicate l.length false).getD j false = false := by
      rw [Array.getD_eq_getD_getElem?, Array.getElem?_replicate]; split <;> rfl
    rw [this] at hj
    cases hj) h1
  have e1 : (l ++ [oL]).toArray.size = l.length + 1 := by simp
  rw [e1, Array.replicate_succ]
  exact h2
/-- The same, for the walk: the last operation is walked as others are. -/
theorem wp_region_tame_cut {P : Program} {id : Nat} {Q : Exit → Act → World → Prop} {w : World} {a0 : Act} {l : List Oper} (C : World → Prop) (R : World → World → Prop) (hm : P.follows .mixedOrders = true) (n : Nat) (hn : a0.tmps.size = n) (oL : Oper) (ho : l.getLast? = some oL)
    (hB : tameB l n = true) (hB' : tameB l.dropLast n = true) (hL : lastB l = true) (hgL : oL.guard = none) (hC : C w.drew)
    (h : wpTame P C R (l.dropLast.map (·.dst)) a0 (fun A W => wpList P l.toArray Q [oL] A W) l.dropLast.length l.dropLast []) : (Code.region id l.toArray true).wp P Q a0 w := by
  have e : l.dropLast ++ [oL] = l := by
    obtain ⟨ys, rfl⟩ := List.getLast?_eq_some_iff.1 ho
    rw [List.dropLast_concat]
  have := wp_region_tame_last (P := P) (id := id) (Q := Q) (w := w) (a0 := a0) (l := l.dropLast) (oL := oL) C R hm n hn (by rw [e]; exact hB) hB' (by rw [e]; exact hL) hgL hC (by
    have hw : ∀ A : Act, Region.wanted oL (yielded l.toArray A.tmps) = true := fun A => by simp [Region.wanted, hgL]
    simpa only [wpList, hw, if_true] using h)
  rw [e] at this
  exact this
end Go.Proofs.YtafdbgielmlihaaDoor
