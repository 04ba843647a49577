/- The walks of slices.IndexFunc and slices.ContainsFunc at numbers, of core.in and core.rising: each returns what the plain function says. -/
import Derived.Test.YtafdbgielmlihaaDoorMem
namespace Go.Proofs.YtafdbgielmlihaaDoor
open Go.RowKit Go.Shelf

def inB (lo hi n : Int) : Bool := decide (lo ≤ n) && decide (n ≤ hi)
theorem not_inB (lo hi n : Int) : (decide (n < lo) || decide (hi < n)) = !inB lo hi n := by
  unfold inB; rw [Bool.eq_iff_iff]; simp

set_option maxHeartbeats 400000 in
theorem f124_any (g : FuncId) (cap : Array Value) (eg : ∀ args w, (callFunc g args).run Tryd.prog w = .ok (.enter g args) w) (p : Int → Bool) (l : List Int) (v : Value) (w : World) (hs : SlI w v l) (hp : Pred (fun n => .int .i64 n) g cap p l w) :
    Calls Tryd.prog 124 #[v, .func (.func g) #[] cap] w fun e w' => e = .returned (.int .i64 (idxF p l)) ∧ Ext w w' := by
  obtain ⟨A, n, c, rfl, hn, hlc, hcm⟩ := hs.form
  have HP := Lib.hid hp; clear hp
  go_enter Tryd.func124, Tryd.ntmps124
  go_wp2
  go_loopg [5, 8] n (fun gg _ s8 wr => ∃ kk : Nat, kk ≤ n ∧ n - kk ≤ gg ∧ s8 = .int .i64 kk ∧ Aside (Ext w wr) ∧ Aside (∀ j y, j < kk → l[j]? = some y → p y = false))
  case atStart => exact ⟨0, Nat.zero_le _, by omega, rfl, Ext.refl w, fun j y hj => absurd hj (Nat.not_lt_zero _)⟩
  case round =>
    obtain ⟨kk, hkk, hg, rfl, BW, FA⟩ := hrel
    by_cases hlt : kk < n
    · have hltz : (kk : Int) < (n : Int) := by omega
      obtain ⟨b, off, x, rfl, hx, hb, hcell⟩ := hs.at_ hlt
      have c0 := SlI.cell hcell BW.out
      have hcall := HP.out wr x (List.mem_of_getElem? hx) BW.out
      have HX := Lib.hid hx; clear hx hcell hs
      cases hq : p x with
      | true =>
        rw [hq] at hcall
        have HC := Lib.hid hcall; clear hcall
        have HQ := Lib.hid hq; clear hq
        go_wp2_with (go_at_fn g; refine HC.out.mono ?_; rintro e w' ⟨rfl, hb'⟩)
        go_ret
        exact ⟨by rw [idxF_some p l kk x HX.out HQ.out FA.out]; rfl, BW.out.trans hb'⟩
      | false =>
        rw [hq] at hcall
        have HC := Lib.hid hcall; clear hcall
        have HQ := Lib.hid hq; clear hq
        go_wp2_with (go_at_fn g; refine HC.out.mono ?_; rintro e w' ⟨rfl, hb'⟩)
        go_roundg (n - (kk + 1))
        case measure => omega
        case rel => exact ⟨kk + 1, by omega, by omega, rfl, BW.out.trans hb', fun j y hj hy => by
          rcases Nat.lt_succ_iff_lt_or_eq.1 hj with h | rfl
          · exact FA.out j y h hy
          · rw [HX.out] at hy; cases hy; exact HQ.out⟩
    · have HE := Lib.hid (show kk = n by omega); clear hs
      go_wp2
      go_ret
      exact ⟨by rw [idxF_none p l (fun x hx => by obtain ⟨j, hj⟩ := List.getElem?_of_mem hx; exact FA.out j x (by have := (List.getElem?_eq_some_iff.1 hj).1; have := HE.out; have := hn.out; omega) hj)]; rfl, BW.out⟩

theorem f114_any (g : FuncId) (cap : Array Value) (eg : ∀ args w, (callFunc g args).run Tryd.prog w = .ok (.enter g args) w) (p : Int → Bool) (l : List Int) (v : Value) (w : World) (hs : SlI w v l) (hp : Pred (fun n => .int .i64 n) g cap p l w) :
    Calls Tryd.prog 114 #[v, .func (.func g) #[] cap] w fun e w' => e = .returned (.bool (l.any p)) ∧ Ext w w' := by
  have HP := Lib.hid hp; clear hp
  have HS := Lib.hid hs; clear hs
  go_enter Tryd.func114, Tryd.ntmps114
  go_wp2_with (go_at_call 124; refine (f124_any g cap eg p l v _ HS.out HP.out).mono ?_; rintro e w' ⟨rfl, hb'⟩)
  go_ret
  exact ⟨ret_bool (idxF_any p l), hb'⟩

theorem f115_any (lo hi n : Int) (B1 B2 : Nat) (w : World) (h1 : w.cell? ⟨B1, 0, none⟩ = some (.int .i64 lo)) (h2 : w.cell? ⟨B2, 0, none⟩ = some (.int .i64 hi)) :
    Calls Tryd.prog 115 #[.int .i64 n, .pointer (some ⟨B1, 0, none⟩), .pointer (some ⟨B2, 0, none⟩)] w fun e w' => e = .returned (.bool (!inB lo hi n)) ∧ Ext w w' := by
  go_enter Tryd.func115, Tryd.ntmps115
  go_wp2
  all_goals go_ret
  all_goals exact ⟨ret_bool (by rw [← not_inB]; try simp [*]), Ext.refl w⟩

theorem in_any (lo hi : Int) (l : List Int) (v : Value) (w : World) (hs : SlI w v l) :
    Calls Tryd.prog 89 #[.int .i64 lo, .int .i64 hi, v] w fun e w' => e = .returned (.bool (l.all (inB lo hi))) ∧ Ext w w' := by
  have hmf : ∀ (fn : Fn) (first cap : Array Value) (w : World), (Instr.makeFunc fn first cap).run Tryd.prog w = .ok (.func fn first cap) w := fun _ _ _ _ => rfl
  have HS := Lib.hid hs; clear hs
  go_enter Tryd.func89, Tryd.ntmps89
  go_wp2_with fail
  refine (f114_any 115 _ (enters_of Tryd.func115 (by kernel_rfl) rfl) (fun n => !inB lo hi n) l v _ ((HS.out.ext (Ext.al _ _)).ext (Ext.al _ _)) ?_).mono ?_
  · intro W x _ hW
    exact f115_any lo hi x w.heap.size (w.heap.size + 1) W ((hW.cell (p := ⟨w.heap.size, 0, none⟩) (by simp; omega)).trans (by simp [go_sem])) ((hW.cell (p := ⟨w.heap.size + 1, 0, none⟩) (by simp)).trans (by simp [go_sem]))
  rintro e w' ⟨rfl, hb'⟩
  go_wp2
  go_ret
  exact ⟨ret_bool (by simp [List.all_eq_not_any_not]), ((Ext.al _ _).trans (Ext.al _ _)).trans hb'⟩

theorem SlI.lit {W : World} {B : Nat} (xs : List Int) (hb : B < W.heap.size) (hm : xs.length ≤ maxLen) (hc : ∀ (j : Nat) (x : Int), xs[j]? = some x → W.cell? ⟨B, j, none⟩ = some (.int .i64 x)) : SlI W (.slice (some ⟨B, 0, none⟩) xs.length xs.length) xs := by
  refine ⟨_, _, rfl, Nat.le_refl _, hm, fun _ => ⟨B, 0, rfl, hb, fun k y hk j u hu => ?_⟩⟩
  match j, hu with
  | 0, hu => simp at hu; subst hu; simpa using hc k y hk
theorem in1_any (lo hi n : Int) (B : Nat) (W : World) (hb : B < W.heap.size) (hc : W.cell? ⟨B, 0, none⟩ = some (.int .i64 n)) :
    Calls Tryd.prog 89 #[.int .i64 lo, .int .i64 hi, .slice (some ⟨B, 0, none⟩) 1 1] W fun e w' => e = .returned (.bool (inB lo hi n)) ∧ Ext W w' :=
  (in_any lo hi [n] _ W (SlI.lit [n] hb (by simp [maxLen]) (fun j x hx => by match j, hx with | 0, hx => simp at hx; subst hx; exact hc))).mono fun e w' ⟨he, hw⟩ => ⟨by rw [he]; exact ret_bool (by simp), hw⟩
theorem in2_any (lo hi n m : Int) (B : Nat) (W : World) (hb : B < W.heap.size) (hc : W.cell? ⟨B, 0, none⟩ = some (.int .i64 n)) (hd : W.cell? ⟨B, 1, none⟩ = some (.int .i64 m)) :
    Calls Tryd.prog 89 #[.int .i64 lo, .int .i64 hi, .slice (some ⟨B, 0, none⟩) 2 2] W fun e w' => e = .returned (.bool (inB lo hi n && inB lo hi m)) ∧ Ext W w' :=
  (in_any lo hi [n, m] _ W (SlI.lit [n, m] hb (by simp [maxLen]) (fun j x hx => by match j, hx with | 0, hx => (simp at hx; subst hx; exact hc) | 1, hx => (simp at hx; subst hx; exact hd)))).mono fun e w' ⟨he, hw⟩ => ⟨by rw [he]; exact ret_bool (by simp), hw⟩

theorem in_one (lo hi n : Int) (v : Value) (W : World) (h : SlI W v [n]) :
    Calls Tryd.prog 89 #[.int .i64 lo, .int .i64 hi, v] W fun e w' => e = .returned (.bool (inB lo hi n)) ∧ Ext W w' :=
  (in_any lo hi [n] v W h).mono fun e w' ⟨he, hw⟩ => ⟨by rw [he]; exact ret_bool (by simp), hw⟩
theorem SlI.one1 {W : World} {B : Nat} {n : Int} (hb : B < W.heap.size) (hc : W.cell? ⟨B, 0, none⟩ = some (.int .i64 n)) : SlI W (.slice (some ⟨B, 0, none⟩) 1 1) [n] :=
  SlI.lit [n] hb (by simp [maxLen]) (fun j x hx => by match j, hx with | 0, hx => simp at hx; subst hx; exact hc)

def rightB (a b lo hi : Int) : Bool := (inB lo hi a && inB lo hi b) && decide (a ≤ b)

def risingB : Int → List Int → Bool
  | _, [] => true
  | last, n :: l => inB (last + 1) 9999 n && risingB n l
def lastOf (last : Int) (l : List Int) : Int := l.getLast?.getD last
end Go.Proofs.YtafdbgielmlihaaDoor
