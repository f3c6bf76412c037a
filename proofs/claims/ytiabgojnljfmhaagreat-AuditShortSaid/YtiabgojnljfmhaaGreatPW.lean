/-
  WHAT overdubkeep.Within DOES. No condition beyond each statement's own.
-/
import Derived.Test.YtiabgojnljfmhaaGreatS
import Derived.Test.YtiabgojnljfmhaaGreatR2
import Derived.Test.YtiabgojnljfmhaaGreatQ1
namespace Go.Proofs.YtiabgojnljfmhaaGreat.Ov.W

def within (v n : Int) : Int := if n < 1 then 0 else v % n
theorem Within_spec (h : H) (v n : Int) (hn : n ≤ 4611686018427387904) : Fn Pg 7 #[.int .i64 v, .int .i64 n] h fun r h' => r = .int .i64 (within v n) ∧ h' = h := by
  refine g7 (args := [_, _]) ?_
  refine CLt.mk (fun h1 => ?_) (fun h1 => ?_)
  · exact ⟨by rw [within, if_pos h1]; rfl, rfl⟩
  refine Rem.any (by omega) fun m hm => ?_
  have he : v % n = if m < 0 then m + n else m := by
    have h2 := Int.tmod_add_mul_tdiv v n
    have h3 := Int.emod_nonneg v (show n ≠ 0 by omega)
    have h4 := Int.emod_lt_of_pos v (show 0 < n by omega)
    rw [← hm] at h2
    have h5 : v % n = m % n := by rw [← h2, Int.add_mul_emod_self_left]
    have h6 : m < n := by rw [hm]; exact Int.tmod_lt_of_pos v (by omega)
    have h7 : -n < m := by rw [hm]; exact Int.lt_tmod_of_pos v (by omega)
    rw [h5]
    split
    · rw [← Int.add_emod_right m n, Int.emod_eq_of_lt (by omega) (by omega)]
    · exact Int.emod_eq_of_lt (by omega) h6
  refine CLt.mk (fun h2 => ?_) (fun h2 => ?_)
  · have h7 : -n < m := by rw [hm]; exact Int.lt_tmod_of_pos v (by omega)
    refine Ar.fit64 (by omega) ?_
    exact ⟨by rw [within, if_neg (by omega), he, if_pos h2]; rfl, rfl⟩
  · exact ⟨by rw [within, if_neg (by omega), he, if_neg (by omega)]; rfl, rfl⟩
theorem within_bd (v n : Int) (hn : 1 ≤ n) : 0 ≤ within v n ∧ within v n < n := by
  rw [within, if_neg (by omega)]
  exact ⟨Int.emod_nonneg _ (by omega), Int.emod_lt_of_pos _ (by omega)⟩

end Go.Proofs.YtiabgojnljfmhaaGreat.Ov.W
