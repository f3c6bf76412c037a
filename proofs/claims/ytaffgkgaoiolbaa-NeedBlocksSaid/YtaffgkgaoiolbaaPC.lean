/-
  WHAT THE FUNCTIONS OF PACKAGES need AND overdubkeep DO. No condition beyond each statement's own.
-/
import Derived.Test.YtaffgkgaoiolbaaPB
namespace Go.Proofs.Ytaffgkgaoiolbaa.Ov.W

def blocksOf (n : Int) : Int := if n ≤ 0 then 0 else (n - 1) / 40 + 1
theorem Blocks_spec (h : H) (n : Int) (hn : -9223372036854775808 ≤ n ∧ n ≤ 9223372036854775807) : Fn Pg 8 #[.int .i64 n] h fun v h' => v = .int .i64 (blocksOf n) ∧ h' = h := by
  refine g8 (args := [_]) ?_
  refine CLe.mk (fun h1 => ?_) (fun h1 => ?_)
  · exact ⟨by rw [blocksOf, if_pos h1]; rfl, rfl⟩
  · refine Ar.fit64 (by omega) ?_
    refine Quo.nn64 (by omega) (by omega) ?_
    refine Ar.fit64 (by omega) ?_
    exact ⟨by rw [blocksOf, if_neg (by omega)]; rfl, rfl⟩

theorem Nodes1_spec (h : H) : Fn Pg 13 #[.int .i64 1] h fun v h' => v = .int .i64 1 ∧ h' = h := by
  refine g13 (args := [_]) ?_
  refine CLe.f (by decide) ?_
  refine CLt.t (by decide) ?_
  exact ⟨rfl, rfl⟩

theorem wakes_spec (h : H) : Fn Pg 9 #[] h fun v h' => v = .bool true ∧ h' = h := by
  refine g9 (args := []) ?_
  refine (Blocks_spec h 41 (by omega)).use ?_
  rintro v h1 ⟨rfl, rfl⟩
  refine CEq.t (by decide) ?_
  refine (Nodes1_spec h1).use ?_
  rintro v h2 ⟨rfl, rfl⟩
  refine CEq.t rfl ?_
  exact ⟨rfl, rfl⟩

def within (v n : Int) : Int := if n < 1 then 0 else v % n
theorem Within_spec (h : H) (v n : Int) (hn : n ≤ 4611686018427387904) : Fn Pg 7 #[.int .i64 v, .int .i64 n] h fun r h' => r = .int .i64 (within v n) ∧ h' = h := by
  refine g7 (args := [_, _]) ?_
  refine CLt.mk (fun h1 => ?_) (fun h1 => ?_)
  · exact ⟨by rw [within, if_pos h1]; rfl, rfl⟩
  refine Rem.any (by omega) fun m hm => ?_
  have he : v % n = if m < 0 then m + n else m := by
    have h2 := Int.tmod_add_mul_tdiv v n
    have h3 := Int.emod_nonneg v (show n ≠ 0 by omega)
    have h4 := Int.emod_lt_of_pos v (show 0 < n by omega)
    rw [← hm] at h2
    have h5 : v % n = m % n := by rw [← h2, Int.add_mul_emod_self_left]
    have h6 : m < n := by rw [hm]; exact Int.tmod_lt_of_pos v (by omega)
    have h7 : -n < m := by rw [hm]; exact Int.lt_tmod_of_pos v (by omega)
    rw [h5]
    split
    · rw [← Int.add_emod_right m n, Int.emod_eq_of_lt (by omega) (by omega)]
    · exact Int.emod_eq_of_lt (by omega) h6
  refine CLt.mk (fun h2 => ?_) (fun h2 => ?_)
  · have h7 : -n < m := by rw [hm]; exact Int.lt_tmod_of_pos v (by omega)
    refine Ar.fit64 (by omega) ?_
    exact ⟨by rw [within, if_neg (by omega), he, if_pos h2]; rfl, rfl⟩
  · exact ⟨by rw [within, if_neg (by omega), he, if_neg (by omega)]; rfl, rfl⟩
theorem within_bd (v n : Int) (hn : 1 ≤ n) : 0 ≤ within v n ∧ within v n < n := by
  rw [within, if_neg (by omega)]
  exact ⟨Int.emod_nonneg _ (by omega), Int.emod_lt_of_pos _ (by omega)⟩

/-- Samples that may be. -/
theorem Samples_spec (h : H) (base : Option Addr) (n c : Nat) (xs : List Int) (lim : Nat) (hr : n = 0 ∨ Ints h base n xs) (hlim : lim ≤ 1000000) :
    Fn Pg 4 #[.slice base n c, .int .i64 lim, .bool false] h fun v h' => ∃ b1 n1 c1, ∃ ys : List Int, v = .slice b1 n1 c1 ∧ OwnS h' h.size b1 n1 c1 1 (ys.map (.int .i64)) ∧ Only [] h h' ∧ n1 ≤ lim ∧ (∀ y ∈ ys, okS y) := by
  refine g4 (args := [_, _, _]) ?_
  refine LoopH.mk (σ := Nat × Option Addr × Nat × List Int) (fun (i, b, cc, ys) => [(8, .int .i64 i), (7, .slice b i cc)])
    (fun (i, b, cc, ys) h2 => i ≤ n ∧ i ≤ lim ∧ Only [] h h2 ∧ OwnS h2 h.size b i cc 1 (ys.map (.int .i64)) ∧ ∀ y ∈ ys, okS y) (fun (i, _, _, _) _ => n - i) (0, none, 0, []) ⟨rfl, rfl, trivial⟩ ⟨by omega, by omega, Only.refl _ _, OwnS.nil _ _ _, by simp⟩ ?_
  rintro ⟨i, b, cc, ys⟩ h2 g ⟨hi, hil, ho2, hown, hys⟩
  refine CLt.mk (fun hlt => ?_) (fun hge => ?_)
  rotate_left
  · exact ⟨b, i, cc, ys, rfl, hown, ho2, hil, hys⟩
  refine CLt.mk (fun hlt2 => ?_) (fun hge2 => ?_)
  rotate_left
  · exact ⟨b, i, cc, ys, rfl, hown, ho2, hil, hys⟩
  have hr' := hr.resolve_left (by omega)
  have hl := hr'.1
  have hr2 := hr'.keep0 ho2
  refine Ix.num hr2 (by omega) (by omega) fun a ha => ?_
  refine Ld.mk ha ?_
  rw [show ((i : Int)).toNat = i from by omega]
  refine Ar.any fun m1 hm1 => ?_
  refine (Within_spec h2 m1 16777216 (by omega)).use ?_
  rintro v h3 ⟨rfl, rfl⟩
  have hwb := within_bd m1 16777216 (by omega)
  refine Ar.fit64 (by omega) ?_
  refine Ix.num hr2 (by omega) (by omega) fun a2 ha2 => ?_
  refine Ld.mk ha2 ?_
  rw [show ((i : Int)).toNat = i from by omega] at ha2 ⊢
  have nx : ∀ (y : Int), okS y → ∀ (h5 : H) (b5 : Option Addr) (c5 : Nat), OwnS h5 h.size b5 (i + 1) c5 1 (ys.map (.int .i64) ++ [.int .i64 y]) → Only (blks b) h3 h5 →
      i + 1 ≤ n ∧ i + 1 ≤ lim ∧ Only [] h h5 ∧ OwnS h5 h.size b5 (i + 1) c5 1 ((ys ++ [y]).map (.int .i64)) ∧ ∀ z ∈ ys ++ [y], okS z := by
    intro y hy h5 b5 c5 ho5 hon5
    refine ⟨by omega, by omega, ho2.trans' hon5 fun x hx => .inr (hown.lo x hx), by rw [List.map_append]; exact ho5, ?_⟩
    intro z hz
    rcases List.mem_append.1 hz with h7 | h7
    · exact hys z h7
    · rw [List.mem_singleton.1 h7]; exact hy
  have own5 : okS (-8388608 + within m1 16777216) := ⟨by omega, by omega⟩
  refine CLe.mk (fun h4 => ?_) (fun h4 => ?_)
  · refine Ix.num hr2 (by omega) (by omega) fun a3 ha3 => ?_
    refine Ld.mk ha3 ?_
    rw [show ((i : Int)).toNat = i from by omega]
    refine CLe.mk (fun h5' => ?_) (fun h5' => ?_)
    · refine Ix.num hr2 (by omega) (by omega) fun a4 ha4 => ?_
      refine Ld.mk ha4 ?_
      rw [show ((i : Int)).toNat = i from by omega]
      refine New.app (cs := [.int .i64 _]) hown rfl (by simp [Value.oneCell']) (by decide) rfl (by omega) (by decide) ho2.size fun r h5 b5 c5 ho5 hon5 _ => ?_
      refine Ar.fit64 (by omega) ?_
      exact ⟨(i + 1, b5, c5, _), ⟨rfl, rfl, trivial⟩, nx _ ⟨by omega, by omega⟩ h5 b5 c5 ho5 hon5, by show n - (i + 1) < n - i; omega⟩
    · refine New.app (cs := [.int .i64 _]) hown rfl (by simp [Value.oneCell']) (by decide) rfl (by omega) (by decide) ho2.size fun r h5 b5 c5 ho5 hon5 _ => ?_
      refine Ar.fit64 (by omega) ?_
      exact ⟨(i + 1, b5, c5, _), ⟨rfl, rfl, trivial⟩, nx _ own5 h5 b5 c5 ho5 hon5, by show n - (i + 1) < n - i; omega⟩
  · refine New.app (cs := [.int .i64 _]) hown rfl (by simp [Value.oneCell']) (by decide) rfl (by omega) (by decide) ho2.size fun r h5 b5 c5 ho5 hon5 _ => ?_
    refine Ar.fit64 (by omega) ?_
    exact ⟨(i + 1, b5, c5, _), ⟨rfl, rfl, trivial⟩, nx _ own5 h5 b5 c5 ho5 hon5, by show n - (i + 1) < n - i; omega⟩
end Go.Proofs.Ytaffgkgaoiolbaa.Ov.W
