/-
  THE LAW NeedBlocks, AS A CONTRACT. No condition beyond the statement's own.
-/
import Derived.Test.YtaffgkgaoiolbaaPE
namespace Go.Proofs.Ytaffgkgaoiolbaa.Ov.W

theorem WithinE (h : H) (v n : Int) (hn : 1 ≤ n ∧ n ≤ 4611686018427387904) : Fn Pg 7 #[.int .i64 v, .int .i64 n] h fun r h' => ∃ x : Int, r = .int .i64 x ∧ (0 ≤ x ∧ x < n) ∧ h' = h :=
  (Within_spec h v n hn.2).use fun r h' ⟨h1, h2⟩ => ⟨_, h1, within_bd v n hn.1, h2⟩
theorem BlocksE (h : H) (n : Int) (hn : -9223372036854775808 ≤ n ∧ n ≤ 9223372036854775807) : Fn Pg 8 #[.int .i64 n] h fun v h' => ∃ x : Int, v = .int .i64 x ∧ (n ≤ 0 ∧ x = 0 ∨ 0 < n ∧ x = (n - 1) / 40 + 1) ∧ h' = h :=
  (Blocks_spec h n hn).use fun r h' ⟨h1, h2⟩ => ⟨_, h1, by unfold blocksOf; split <;> omega, h2⟩

theorem NeedBlocks_spec (h : H) (base : Option Addr) (n c : Nat) (xs : List Int) (a b : Int) (hr : n = 0 ∨ Ints h base n xs) :
    Fn Pg 3 #[.slice base n c, .int .i64 a, .int .i64 b] h fun v h' => v = .bool true ∧ Only [] h h' := by
  refine g3 (args := [_, _, _]) ?_
  refine (Samples_spec h base n c xs 150 hr (by omega)).use ?_
  rintro v h1 ⟨b1, n1, c1, ys, rfl, hown1, ho1, hn1, hys⟩
  refine (BNew_spec h1).use ?_
  rintro v h2 ⟨p, t, rfl, hc2, ho2, hp, ht⟩
  refine Raw.nilp (by kernel_rfl) rfl ?_
  have hown2 := hown1.keep0 ho2
  refine (All_spec h2 p t b1 n1 c1 ys hc2 hown2.nums hown1.le hys (fun x hx => by have := hown1.lt x hx; omega) (by omega)).use ?_
  rintro v h3 ⟨b3, k, c3, b4, c4, rfl, hk, ho3, hc3⟩
  have s1 := ho1.size
  have h03 : Only [] h h3 := (ho1.trans ho2).trans' ho3 fun x hx => by simp at hx; omega
  refine (WithinE h3 a 2000 (by omega)).use ?_
  rintro v h4 ⟨x, rfl, ba, rfl⟩
  refine (WithinE h4 b 2000 (by omega)).use ?_
  rintro v h5 ⟨y, rfl, bb, rfl⟩
  refine (BlocksE h5 x (by omega)).use ?_
  rintro v h6 ⟨e1, rfl, he1, rfl⟩
  refine Ar.fit64 (by omega) ?_
  refine (BlocksE h6 (x + y) (by omega)).use ?_
  rintro v h7 ⟨e2, rfl, he2, rfl⟩
  refine dC_seq ?_
  refine CEq.t rfl ?_
  refine (BlocksE h7 n1 (by omega)).use ?_
  rintro v h8 ⟨e4, rfl, he4, rfl⟩
  refine CLe.t (by omega) ?_
  refine CLe.t (by omega) ?_
  refine (BlocksE h8 y (by omega)).use ?_
  rintro v h9 ⟨e3, rfl, he3, rfl⟩
  refine Ar.fit64 (by omega) ?_
  refine CLe.t (by omega) ?_
  refine Ar.fit64 (by omega) ?_
  refine CLe.t (by omega) ?_
  have last : ∀ h10 : H, Fn Pg 8 #[.int .i64 (-1 - x)] h10 fun v h' => v = .int .i64 0 ∧ h' = h10 := fun h10 => (BlocksE h10 (-1 - x) (by omega)).use (by
    rintro v h' ⟨e5, rfl, he5, rfl⟩
    exact ⟨by rw [show e5 = 0 from by omega], rfl⟩)
  refine CEq.mk (fun hx => ?_) (fun hx => ?_)
  · refine CEq.t (by omega) ?_
    refine Raw.eqb (by kernel_rfl) rfl rfl ?_
    refine Ar.fit64 (by omega) ?_
    refine (last h9).use ?_
    rintro v h10 ⟨rfl, rfl⟩
    refine CEq.t rfl ?_
    refine (wakes_spec h10).use ?_
    rintro v h11 ⟨rfl, rfl⟩
    exact ⟨rfl, h03⟩
  · refine CEq.f (by omega) ?_
    refine Raw.eqb (by kernel_rfl) rfl rfl ?_
    refine Ar.fit64 (by omega) ?_
    refine (last h9).use ?_
    rintro v h10 ⟨rfl, rfl⟩
    refine CEq.t rfl ?_
    refine (wakes_spec h10).use ?_
    rintro v h11 ⟨rfl, rfl⟩
    exact ⟨rfl, h03⟩
end Go.Proofs.Ytaffgkgaoiolbaa.Ov.W
