/-
  RESIDUALS (packages fixed, lpc). No condition beyond each statement's own.
-/
import Derived.Test.YtaffgkgaoiolbaaP3
namespace Go.Proofs.Ytaffgkgaoiolbaa.Ov.W

/-- The first j residuals of the fixed predictor. -/
def resF (xs : List Int) (order : Nat) (cs : List Int) (j : Nat) : List Int := (List.range j).map fun i => xs.getD (order + i) 0 - dotTo (xs.take (order + i)) cs cs.length
theorem resF_succ (xs : List Int) (order : Nat) (cs : List Int) (j : Nat) : resF xs order cs (j + 1) = resF xs order cs j ++ [xs.getD (order + j) 0 - dotTo (xs.take (order + j)) cs cs.length] := by
  simp [resF, List.range_succ]

theorem fixC_len {o : Int} (h0 : 0 ≤ o) (h4 : o ≤ 4) : (fixC o).length = o.toNat := by
  have : o = 0 ∨ o = 1 ∨ o = 2 ∨ o = 3 ∨ o = 4 := by omega
  rcases this with rfl | rfl | rfl | rfl | rfl <;> rfl
theorem fixC_bd (o : Int) : ∀ x ∈ fixC o, -6 ≤ x ∧ x ≤ 6 := by
  unfold fixC
  split
  · simp
  · split
    · simp
    · split
      · simp
      · split
        · simp
        · simp

theorem chk_ok {xs : List Int} (h : chk xs = 0) : (∀ x ∈ xs, okS x) ∧ xs.length ≤ 64 := by
  unfold chk at h
  split at h
  · rename_i ha
    split at h
    · exact ⟨ha, ‹_›⟩
    · omega
  · omega

theorem FRes_spec (h : H) (base : Option Addr) (n c : Nat) (xs : List Int) (order : Int) (hr : Ints h base n xs) (hnc : n ≤ c) (hn : n ≤ 2 ^ 40) :
    Fn Pg 26 #[.slice base n c, .int .i64 order] h fun v h' => Only [] h h' ∧
      ((¬ (0 ≤ order ∧ order ≤ 4 ∧ order ≤ n) ∧ v = .tuple #[.slice none 0 0, .int .i64 1]) ∨ (0 ≤ order ∧ order ≤ 4 ∧ order ≤ n ∧ chk xs ≠ 0 ∧ v = .tuple #[.slice none 0 0, .int .i64 (chk xs)]) ∨
       (0 ≤ order ∧ order ≤ 4 ∧ order ≤ n ∧ chk xs = 0 ∧ ∃ b1 n1 c1, v = .tuple #[.slice b1 n1 c1, .int .i64 0] ∧ OwnS h' h.size b1 n1 c1 1 ((resF xs order.toNat (fixC order) (n - order.toNat)).map (.int .i64)))) := by
  have hl := hr.1
  refine g26 (args := [_, _]) ?_
  refine CLt.mk (fun q1 => ?_) (fun q1 => ?_)
  · exact ⟨Only.refl _ _, .inl ⟨by omega, rfl⟩⟩
  refine CLt.mk (fun q2 => ?_) (fun q2 => ?_)
  · exact ⟨Only.refl _ _, .inl ⟨by omega, rfl⟩⟩
  refine CLt.mk (fun q3 => ?_) (fun q3 => ?_)
  · exact ⟨Only.refl _ _, .inl ⟨by omega, rfl⟩⟩
  refine (Check_spec h base n c xs hr (by omega)).use ?_
  rintro v h' ⟨rfl, rfl⟩
  refine CNe.mk (fun q4 => ?_) (fun q4 => ?_)
  · exact ⟨Only.refl _ _, .inr (.inl ⟨q1, q2, q3, q4, rfl⟩)⟩
  refine (FCoef_spec h' order).use ?_
  rintro v h1' ⟨b2, n2, c2, rfl, hcs, hnc2, hfr, ho1⟩
  obtain ⟨hok, h64⟩ := chk_ok q4
  have hl2 := hcs.1
  rw [fixC_len q1 q2] at hl2
  have hr1 := hr.keep0 ho1
  refine LoopH.mk (σ := Nat × Option Addr × Nat) (fun (j, b, cc) => [(9, .int .i64 ((order.toNat + j : Nat) : Int)), (8, .slice b j cc)])
    (fun (j, b, cc) h2 => order.toNat + j ≤ n ∧ Only [] h1' h2 ∧ OwnS h2 h1'.size b j cc 1 ((resF xs order.toNat (fixC order) j).map (.int .i64))) (fun (j, _, _) _ => n - j) (0, none, 0)
    ⟨by show Value.int _ _ = Value.int _ _; congr 1; omega, rfl, trivial⟩ ⟨by omega, Only.refl _ _, OwnS.nil _ _ _⟩ ?_
  rintro ⟨j, b, cc⟩ h2 g ⟨hj, ho2, hown⟩
  refine CLt.mk (fun hlt => ?_) (fun hge => ?_)
  rotate_left
  · have : j = n - order.toNat := by omega
    subst this
    exact ⟨ho1.trans ho2, .inr (.inr ⟨q1, q2, q3, q4, b, _, cc, rfl, hown.anylo fun x hx => Nat.le_trans ho1.size (hown.lo x hx)⟩)⟩
  have hr2 := hr1.keep0 ho2
  have hcs2 := hcs.keep0 ho2
  refine Ix.num hr2 (by omega) (by omega) fun a ha => ?_
  refine Sl.pre (by omega) (by omega) ?_
  have hbd := dot_bd (past := xs.take (order.toNat + j)) (cs := fixC order) (A := 6) (B := 8388608) (by omega) (by omega) (fixC_bd order) (fun x hx' => by have := hok x (List.mem_of_mem_take hx'); unfold okS at this; omega) n2
  have hbd3 : (n2 : Int) * (6 * 8388608) ≤ 4 * (6 * 8388608) := Int.mul_le_mul_of_nonneg_right (by omega) (by omega)
  have hxb := getD_all (p := fun x => -8388608 ≤ x ∧ x ≤ 8388608) (fun x hx' => by have := hok x hx'; unfold okS at this; omega) (by omega) (order.toNat + j)
  have gs := guess_spec h2 base (order.toNat + j) c (xs.take (order.toNat + j)) b2 n2 c2 (fixC order) (hr2.take (by omega)) hcs2 (fun x hx' => hok x (List.mem_of_mem_take hx')) (fixC_bd order) (by omega) (by omega) (by omega)
  rw [show (((order.toNat + j : Nat) : Int)).toNat = order.toNat + j from by omega] at ha
  rw [show (((order.toNat + j : Nat) : Int)).toNat = order.toNat + j from by omega]
  have fin : ∀ (h5 : H) (b5 : Option Addr) (c5 : Nat), OwnS h5 h1'.size b5 (j + 1) c5 1 ((resF xs order.toNat (fixC order) j).map (.int .i64) ++ [.int .i64 (xs.getD (order.toNat + j) 0 - dotTo (xs.take (order.toNat + j)) (fixC order) n2)]) → Only (blks b) h2 h5 →
      order.toNat + (j + 1) ≤ n ∧ Only [] h1' h5 ∧ OwnS h5 h1'.size b5 (j + 1) c5 1 ((resF xs order.toNat (fixC order) (j + 1)).map (.int .i64)) := by
    intro h5 b5 c5 ho5 hon5
    refine ⟨by omega, ho2.trans' hon5 fun x hx => .inr (hown.lo x hx), ?_⟩
    rw [resF_succ, List.map_append, hcs.1]
    exact ho5
  have hlen : (j + 1) * 8 ≤ 2 ^ 46 := by omega
  refine ⟨?_, ?_⟩
  · refine Ld.mk ha ?_
    refine gs.use ?_
    rintro v h3 ⟨rfl, rfl⟩
    refine Ar.fit64 (by omega) ?_
    refine New.app (cs := [.int .i64 _]) hown rfl (by simp [Value.oneCell']) (by decide) rfl hlen (by decide) ho2.size fun r h5 b5 c5 ho5 hon5 _ => ?_
    refine Ar.fit64 (by omega) ?_
    exact ⟨(j + 1, b5, c5), ⟨rfl, rfl, trivial⟩, fin h5 b5 c5 ho5 hon5, by show n - (j + 1) < n - j; omega⟩
  · refine gs.use ?_
    rintro v h3 ⟨rfl, rfl⟩
    refine Ld.mk ha ?_
    refine Ar.fit64 (by omega) ?_
    refine New.app (cs := [.int .i64 _]) hown rfl (by simp [Value.oneCell']) (by decide) rfl hlen (by decide) ho2.size fun r h5 b5 c5 ho5 hon5 _ => ?_
    refine Ar.fit64 (by omega) ?_
    exact ⟨(j + 1, b5, c5), ⟨rfl, rfl, trivial⟩, fin h5 b5 c5 ho5 hon5, by show n - (j + 1) < n - j; omega⟩
end Go.Proofs.Ytaffgkgaoiolbaa.Ov.W
