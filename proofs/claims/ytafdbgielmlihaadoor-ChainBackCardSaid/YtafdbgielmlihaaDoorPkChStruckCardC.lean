/- Remainders of numbers that are not negative. -/
import Derived.Test.YtafdbgielmlihaaDoorPkChClosedCardA
namespace Go.Proofs.YtafdbgielmlihaaDoor
open Go.RowKit Go.Shelf

theorem remz_nat {a : Int} {n : Nat} (ha : 0 ≤ a) (hn : 0 < n) : ∃ j : Nat, a.tmod (n : Int) = (j : Int) ∧ j < n := by
  refine ⟨(a.tmod (n : Int)).toNat, ?_, ?_⟩
  · have := Int.emod_nonneg a (show (n : Int) ≠ 0 by omega)
    rw [Int.tmod_eq_emod_of_nonneg ha]
    omega
  · have := Int.emod_lt_of_pos a (show (0 : Int) < n by omega)
    have := Int.emod_nonneg a (show (n : Int) ≠ 0 by omega)
    rw [Int.tmod_eq_emod_of_nonneg ha]
    omega
theorem remz_int {a b : Int} (ha : 0 ≤ a) (hb : 0 < b) : 0 ≤ a.tmod b ∧ a.tmod b < b := by
  have := Int.emod_nonneg a (show b ≠ 0 by omega)
  have := Int.emod_lt_of_pos a hb
  rw [Int.tmod_eq_emod_of_nonneg ha]
  omega
end Go.Proofs.YtafdbgielmlihaaDoor
