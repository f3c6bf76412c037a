/-
  WHAT THE FUNCTIONS OF PACKAGES fixed, lpc DO (the writing side). No condition beyond each statement's own.
-/
import Derived.Test.YtaffgkgaoiolbaaP2
namespace Go.Proofs.Ytaffgkgaoiolbaa.Ov.W

def okS (v : Int) : Prop := -8388608 ≤ v ∧ v ≤ 8388607
instance (v : Int) : Decidable (okS v) := by unfold okS; infer_instance

theorem Sample_spec (h : H) (n : Int) : Fn Pg 14 #[.int .i64 n] h fun v h' => v = .bool (decide (okS n)) ∧ h' = h := by
  refine g14 (args := [_]) ?_
  refine CLe.mk (fun h1 => ?_) (fun h1 => ?_)
  · refine CLe.mk (fun h2 => ?_) (fun h2 => ?_)
    · exact ⟨by rw [decide_eq_true (show okS n from ⟨h1, h2⟩)]; rfl, rfl⟩
    · exact ⟨by rw [decide_eq_false (show ¬ okS n from fun h => by unfold okS at h; omega)]; rfl, rfl⟩
  · exact ⟨by rw [decide_eq_false (show ¬ okS n from fun h => by unfold okS at h; omega)]; rfl, rfl⟩

/-- What fixed.Check says. -/
def chk (xs : List Int) : Int := if ∀ x ∈ xs, okS x then (if xs.length ≤ 64 then 0 else 4) else 8

theorem take_getD {xs : List Int} {i : Nat} (hi : i < xs.length) : xs.take (i + 1) = xs.take i ++ [xs.getD i 0] := by
  rw [List.take_succ_eq_append_getElem hi, List.getD_eq_getElem?_getD, List.getElem?_eq_getElem hi]; rfl

theorem Check_spec (h : H) (base : Option Addr) (n c : Nat) (xs : List Int) (hr : Ints h base n xs) (hn : n ≤ 2 ^ 47) : Fn Pg 17 #[.slice base n c] h fun v h' => v = .int .i64 (chk xs) ∧ h' = h := by
  have hl := hr.1
  refine g17 (args := [_]) ?_
  refine LoopH.mk (σ := Nat) (fun i => [(7, .int .i64 i)]) (fun i h' => i ≤ n ∧ (∀ x ∈ xs.take i, okS x) ∧ h' = h) (fun i _ => n - i) 0 ⟨rfl, trivial⟩ ⟨by omega, by simp, rfl⟩ ?_
  rintro i h' g ⟨hi, hx, rfl⟩
  refine CLt.mk (fun hlt => ?_) (fun hge => ?_)
  · refine Ix.num hr (by omega) (by omega) fun a ha => ?_
    refine Ld.mk ha ?_
    refine (Sample_spec _ _).use ?_
    rintro v h2 ⟨rfl, rfl⟩
    rw [show ((i : Int)).toNat = i from by omega]
    by_cases ho : okS (xs.getD i 0)
    · rw [decide_eq_true ho]
      refine Ar.fit64 (by omega) ?_
      refine ⟨i + 1, ⟨rfl, trivial⟩, ⟨by omega, ?_, rfl⟩, by omega⟩
      rw [take_getD (by omega)]
      intro x hx'
      rcases List.mem_append.1 hx' with h1 | h1
      · exact hx x h1
      · simp at h1; rw [h1]; exact ho
    · rw [decide_eq_false ho]
      refine ⟨?_, rfl⟩
      rw [chk, if_neg]
      · rfl
      · intro hall
        refine ho (hall _ ?_)
        rw [List.getD_eq_getElem?_getD, List.getElem?_eq_getElem (by omega)]
        exact List.getElem_mem _
  · have hall : ∀ x ∈ xs, okS x := by rwa [List.take_of_length_le (by omega)] at hx
    refine CLt.mk (fun h1 => ?_) (fun h1 => ?_)
    · exact ⟨by rw [chk, if_pos hall, if_neg (by omega)]; rfl, rfl⟩
    · exact ⟨by rw [chk, if_pos hall, if_pos (by omega)]; rfl, rfl⟩

/-- The coefficients of the fixed predictors. -/
def fixC (order : Int) : List Int := if order = 1 then [1] else if order = 2 then [2, -1] else if order = 3 then [3, -3, 1] else if order = 4 then [4, -6, 4, -1] else []

theorem FCoef_spec (h : H) (order : Int) : Fn Pg 32 #[.int .i64 order] h fun v h' => ∃ base n c, v = .slice base n c ∧ Ints h' base n (fixC order) ∧ n ≤ c ∧ (∀ b ∈ blks base, h.size ≤ b) ∧ Only [] h h' := by
  refine g32 (args := [_]) ?_
  refine CEq.mk (fun h1 => ?_) (fun h1 => ?_)
  · subst h1
    refine New.blk (cs := [.int .i64 1]) fun h' hs hb ho => ?_
    exact ⟨_, 1, 1, rfl, ⟨rfl, hb.row⟩, by omega, by simp [blks], ho⟩
  refine CEq.mk (fun h2 => ?_) (fun h2 => ?_)
  · subst h2
    refine New.blk (cs := [.int .i64 2, .int .i64 (-1)]) fun h' hs hb ho => ?_
    exact ⟨_, 2, 2, rfl, ⟨rfl, hb.row⟩, by omega, by simp [blks], ho⟩
  refine CEq.mk (fun h3 => ?_) (fun h3 => ?_)
  · subst h3
    refine New.blk (cs := [.int .i64 3, .int .i64 (-3), .int .i64 1]) fun h' hs hb ho => ?_
    exact ⟨_, 3, 3, rfl, ⟨rfl, hb.row⟩, by omega, by simp [blks], ho⟩
  refine CEq.mk (fun h4 => ?_) (fun h4 => ?_)
  · subst h4
    refine New.blk (cs := [.int .i64 4, .int .i64 (-6), .int .i64 4, .int .i64 (-1)]) fun h' hs hb ho => ?_
    exact ⟨_, 4, 4, rfl, ⟨rfl, hb.row⟩, by omega, by simp [blks], ho⟩
  · refine ⟨none, 0, 0, rfl, ?_, by omega, by simp [blks], Only.refl _ _⟩
    rw [fixC, if_neg h1, if_neg h2, if_neg h3, if_neg h4]
    exact Nums.nil _ _

/-- The first i terms of a prediction. -/
def dotTo (past cs : List Int) : Nat → Int
  | 0 => 0
  | i + 1 => dotTo past cs i + cs.getD i 0 * past.getD (past.length - 1 - i) 0

theorem mul_bd {a b A B : Int} (ha : -A ≤ a ∧ a ≤ A) (hb : -B ≤ b ∧ b ≤ B) : -(A * B) ≤ a * b ∧ a * b ≤ A * B := by
  have hA : 0 ≤ A := by omega
  have hB : 0 ≤ B := by omega
  have h1 : a.natAbs * b.natAbs ≤ A.natAbs * B.natAbs := Nat.mul_le_mul (by omega) (by omega)
  rw [← Int.natAbs_mul, ← Int.natAbs_mul] at h1
  have h2 : 0 ≤ A * B := Int.mul_nonneg hA hB
  omega
theorem getD_all {p : Int → Prop} {xs : List Int} (h : ∀ x ∈ xs, p x) (h0 : p 0) (i : Nat) : p (xs.getD i 0) := by
  rw [List.getD_eq_getElem?_getD]
  cases hx : xs[i]? with
  | none => exact h0
  | some x => exact h x (List.mem_of_getElem? hx)

theorem dot_bd {past cs : List Int} {A B : Int} (hA : 0 ≤ A) (hB : 0 ≤ B) (hc : ∀ x ∈ cs, -A ≤ x ∧ x ≤ A) (hp : ∀ x ∈ past, -B ≤ x ∧ x ≤ B) : ∀ i : Nat, -(i * (A * B)) ≤ dotTo past cs i ∧ dotTo past cs i ≤ i * (A * B) := by
  intro i
  induction i with
  | zero => simp [dotTo]
  | succ i ih =>
    have h1 := mul_bd (getD_all (p := fun x => -A ≤ x ∧ x ≤ A) hc (by omega) i) (getD_all (p := fun x => -B ≤ x ∧ x ≤ B) hp (by omega) (past.length - 1 - i))
    simp only [dotTo]
    rw [show ((i + 1 : Nat) : Int) * (A * B) = i * (A * B) + A * B from by rw [Int.natCast_add, Int.add_mul]; simp]
    omega

theorem guess_spec (h : H) (base : Option Addr) (n c : Nat) (xs : List Int) (b2 : Option Addr) (n2 c2 : Nat) (cs : List Int) (hr : Ints h base n xs) (hc : Ints h b2 n2 cs) (hx : ∀ x ∈ xs, okS x) (hcs : ∀ x ∈ cs, -6 ≤ x ∧ x ≤ 6) (h4 : n2 ≤ 4) (hle : n2 ≤ n) (hn : n ≤ 2 ^ 47) :
    Fn Pg 33 #[.slice base n c, .slice b2 n2 c2] h fun v h' => v = .int .i64 (dotTo xs cs n2) ∧ h' = h := by
  have hl := hr.1
  have hl2 := hc.1
  have bd := dot_bd (past := xs) (cs := cs) (A := 6) (B := 8388608) (by omega) (by omega) hcs (fun x hx' => by have := hx x hx'; unfold okS at this; omega)
  refine g33 (args := [_, _]) ?_
  refine LoopH.mk (σ := Nat) (fun i => [(10, .int .i64 i), (5, .int .i64 (dotTo xs cs i))]) (fun i h' => i ≤ n2 ∧ h' = h) (fun i _ => n2 - i) 0 ⟨rfl, rfl, trivial⟩ ⟨by omega, rfl⟩ ?_
  rintro i h' g ⟨hi, rfl⟩
  refine CLt.mk (fun hlt => ?_) (fun hge => ?_)
  · refine Ix.num hc (by omega) (by omega) fun a ha => ?_
    refine Ld.mk ha ?_
    refine Ar.fit64 (by omega) ?_
    refine Ar.fit64 (by omega) ?_
    refine Ix.num hr (by omega) (by omega) fun a2 ha2 => ?_
    refine Ld.mk ha2 ?_
    rw [show ((i : Int)).toNat = i from by omega, show ((n : Int) - 1 - (i : Int)).toNat = xs.length - 1 - i from by omega]
    have h1 := mul_bd (getD_all (p := fun x => -6 ≤ x ∧ x ≤ 6) hcs (by omega) i) (getD_all (p := fun x => -8388608 ≤ x ∧ x ≤ 8388608) (fun x hx' => by have := hx x hx'; unfold okS at this; omega) (by omega) (xs.length - 1 - i))
    have h2 := bd i
    have h3 : (i : Int) * (6 * 8388608) ≤ 4 * (6 * 8388608) := Int.mul_le_mul_of_nonneg_right (by omega) (by omega)
    refine Ar.fit64 (by omega) ?_
    refine Ar.fit64 (by omega) ?_
    refine Ar.fit64 (by omega) ?_
    exact ⟨i + 1, ⟨rfl, rfl, trivial⟩, ⟨by omega, rfl⟩, by omega⟩
  · have : i = n2 := by omega
    subst this
    exact ⟨rfl, rfl⟩
end Go.Proofs.Ytaffgkgaoiolbaa.Ov.W
