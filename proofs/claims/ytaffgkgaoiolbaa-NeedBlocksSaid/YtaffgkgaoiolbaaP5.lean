/-
  WHAT THE FUNCTIONS OF PACKAGE lpc DO (the writing side). No condition beyond each statement's own.
-/
import Derived.Test.YtaffgkgaoiolbaaP4
namespace Go.Proofs.Ytaffgkgaoiolbaa.Ov.W

def okC (c : Int) : Prop := -32768 ≤ c ∧ c ≤ 32767
instance (v : Int) : Decidable (okC v) := by unfold okC; infer_instance
def cutV (n : Int) : Int := if n < -16777216 ∨ 16777216 < n then 0 else n

theorem coef_spec (h : H) (n : Int) : Fn Pg 50 #[.int .i64 n] h fun v h' => v = .bool (decide (okC n)) ∧ h' = h := by
  refine g50 (args := [_]) ?_
  refine CLe.mk (fun h1 => ?_) (fun h1 => ?_)
  · refine CLe.mk (fun h2 => ?_) (fun h2 => ?_)
    · exact ⟨by rw [decide_eq_true (show okC n from ⟨h1, h2⟩)]; rfl, rfl⟩
    · exact ⟨by rw [decide_eq_false (show ¬ okC n from fun h => by unfold okC at h; omega)]; rfl, rfl⟩
  · exact ⟨by rw [decide_eq_false (show ¬ okC n from fun h => by unfold okC at h; omega)]; rfl, rfl⟩

theorem cut_spec (h : H) (n : Int) : Fn Pg 51 #[.int .i64 n] h fun v h' => v = .int .i64 (cutV n) ∧ h' = h := by
  refine g51 (args := [_]) ?_
  refine CLt.mk (fun h1 => ?_) (fun h1 => ?_)
  · exact ⟨by rw [cutV, if_pos (.inl h1)]; rfl, rfl⟩
  refine CLt.mk (fun h2 => ?_) (fun h2 => ?_)
  · exact ⟨by rw [cutV, if_pos (.inr h2)]; rfl, rfl⟩
  · exact ⟨by rw [cutV, if_neg (by omega)]; rfl, rfl⟩
theorem cutV_bd (n : Int) : -16777216 ≤ cutV n ∧ cutV n ≤ 16777216 := by unfold cutV; split <;> omega

/-- The first i terms of a guess. -/
def lpcTo (past cs : List Int) : Nat → Int
  | 0 => 0
  | i + 1 => if okC (cs.getD i 0) then lpcTo past cs i + cs.getD i 0 * cutV (past.getD (past.length - 1 - i) 0) else lpcTo past cs i
def guessL (past cs : List Int) : Int := lpcTo past cs (min (min past.length cs.length) 12) / 4096
theorem lpc_bd (past cs : List Int) : ∀ i : Nat, -(i * (32768 * 16777216)) ≤ lpcTo past cs i ∧ lpcTo past cs i ≤ i * (32768 * 16777216) := by
  intro i
  induction i with
  | zero => simp [lpcTo]
  | succ i ih =>
    simp only [lpcTo]
    rw [show ((i + 1 : Nat) : Int) * (32768 * 16777216) = i * (32768 * 16777216) + 32768 * 16777216 from by rw [Int.natCast_add, Int.add_mul]; simp]
    split
    · rename_i hc
      unfold okC at hc
      have h1 := mul_bd (a := cs.getD i 0) (b := cutV (past.getD (past.length - 1 - i) 0)) (A := 32768) (B := 16777216) (by omega) (by have := cutV_bd (past.getD (past.length - 1 - i) 0); omega)
      omega
    · omega

theorem Guess_spec (h : H) (base : Option Addr) (n c : Nat) (xs : List Int) (b2 : Option Addr) (n2 c2 : Nat) (cs : List Int) (hr : Ints h base n xs) (hc : Ints h b2 n2 cs) (hn : n ≤ 2 ^ 47) :
    Fn Pg 47 #[.slice base n c, .slice b2 n2 c2] h fun v h' => v = .int .i64 (guessL xs cs) ∧ h' = h := by
  have hl := hr.1
  have hl2 := hc.1
  have bd := lpc_bd xs cs
  refine g47 (args := [_, _]) ?_
  refine LoopH.mk (σ := Nat) (fun i => [(12, .int .i64 i), (5, .int .i64 (lpcTo xs cs i))]) (fun i h' => i ≤ min (min n n2) 12 ∧ h' = h) (fun i _ => 12 - i) 0 ⟨rfl, rfl, trivial⟩ ⟨by omega, rfl⟩ ?_
  rintro i h' g ⟨hi, rfl⟩
  refine CLt.mk (fun hlt => ?_) (fun hge => ?_)
  rotate_left
  · have : i = min (min xs.length cs.length) 12 := by omega
    refine Shr.any (by omega) fun m hm => ?_
    refine ⟨?_, rfl⟩
    rw [hm, guessL, ← this, Int.fdiv_eq_ediv_of_nonneg _ (Int.pow_nonneg (by omega))]
    rfl
  have hi2 : i < n2 := by omega
  have hi1 : i < n := by omega
  have hi12 : i < 12 := by omega
  refine Ix.num hc (by omega) (by omega) fun a ha => ?_
  refine Ld.mk ha ?_
  refine (coef_spec _ _).use ?_
  rintro v h1 ⟨rfl, rfl⟩
  rw [show ((i : Int)).toNat = i from by omega] at ha ⊢
  by_cases hok : okC (cs.getD i 0)
  · rw [decide_eq_true hok]
    have hok' := hok
    unfold okC at hok'
    refine Ix.num hc (by omega) (by omega) fun a1 ha1 => ?_
    refine Ar.fit64 (by omega) ?_
    refine Ar.fit64 (by omega) ?_
    refine Ix.num hr (by omega) (by omega) fun a2 ha2 => ?_
    rw [show ((i : Int)).toNat = i from by omega] at ha1
    rw [show ((n : Int) - 1 - (i : Int)).toNat = xs.length - 1 - i from by omega] at ha2
    have cb := cutV_bd (xs.getD (xs.length - 1 - i) 0)
    have h5 := mul_bd (a := cs.getD i 0) (b := cutV (xs.getD (xs.length - 1 - i) 0)) (A := 32768) (B := 16777216) (by omega) (by omega)
    have h6 := bd i
    have h7 : (i : Int) * (32768 * 16777216) ≤ 12 * (32768 * 16777216) := Int.mul_le_mul_of_nonneg_right (by omega) (by omega)
    have ct := cut_spec h1 (xs.getD (xs.length - 1 - i) 0)
    have hs : lpcTo xs cs (i + 1) = lpcTo xs cs i + cs.getD i 0 * cutV (xs.getD (xs.length - 1 - i) 0) := by simp only [lpcTo, if_pos hok]
    have e1 : i + 1 ≤ min (min n n2) 12 := by omega
    have e2 : 12 - (i + 1) < 12 - i := by omega
    refine ⟨?_, ?_⟩
    · refine Ld.mk ha1 ?_
      refine Ld.mk ha2 ?_
      refine ct.use ?_
      rintro v h2 ⟨rfl, rfl⟩
      refine Ar.fit64 (by omega) ?_
      refine Ar.fit64 (by omega) ?_
      refine Ar.fit64 (by omega) ?_
      exact ⟨i + 1, ⟨rfl, by rw [hs]; rfl, trivial⟩, ⟨e1, rfl⟩, e2⟩
    · refine Ld.mk ha2 ?_
      refine ⟨?_, ?_⟩
      · refine Ld.mk ha1 ?_
        refine ct.use ?_
        rintro v h2 ⟨rfl, rfl⟩
        refine Ar.fit64 (by omega) ?_
        refine Ar.fit64 (by omega) ?_
        refine Ar.fit64 (by omega) ?_
        exact ⟨i + 1, ⟨rfl, by rw [hs]; rfl, trivial⟩, ⟨e1, rfl⟩, e2⟩
      · refine ct.use ?_
        rintro v h2 ⟨rfl, rfl⟩
        refine Ld.mk ha1 ?_
        refine Ar.fit64 (by omega) ?_
        refine Ar.fit64 (by omega) ?_
        refine Ar.fit64 (by omega) ?_
        exact ⟨i + 1, ⟨rfl, by rw [hs]; rfl, trivial⟩, ⟨e1, rfl⟩, e2⟩
  · rw [decide_eq_false hok]
    refine Ar.fit64 (by omega) ?_
    refine ⟨i + 1, ⟨rfl, ?_, trivial⟩, ⟨by omega, rfl⟩, by omega⟩
    simp only [lpcTo, if_neg hok]
    rfl

def mayL (cs : List Int) : Prop := (∀ c ∈ cs, okC c) ∧ 1 ≤ cs.length ∧ cs.length ≤ 12
open Classical in
theorem May_spec (h : H) (base : Option Addr) (n c : Nat) (cs : List Int) (hr : Ints h base n cs) (hn : n ≤ 2 ^ 47) : Fn Pg 46 #[.slice base n c] h fun v h' => v = .bool (decide (mayL cs)) ∧ h' = h := by
  have hl := hr.1
  refine g46 (args := [_]) ?_
  refine LoopH.mk (σ := Nat) (fun i => [(7, .int .i64 i)]) (fun i h' => i ≤ n ∧ (∀ x ∈ cs.take i, okC x) ∧ h' = h) (fun i _ => n - i) 0 ⟨rfl, trivial⟩ ⟨by omega, by simp, rfl⟩ ?_
  rintro i h' g ⟨hi, hx, rfl⟩
  refine CLt.mk (fun hlt => ?_) (fun hge => ?_)
  · refine Ix.num hr (by omega) (by omega) fun a ha => ?_
    refine Ld.mk ha ?_
    refine (coef_spec _ _).use ?_
    rintro v h2 ⟨rfl, rfl⟩
    rw [show ((i : Int)).toNat = i from by omega]
    by_cases ho : okC (cs.getD i 0)
    · rw [decide_eq_true ho]
      refine Ar.fit64 (by omega) ?_
      refine ⟨i + 1, ⟨rfl, trivial⟩, ⟨by omega, ?_, rfl⟩, by omega⟩
      rw [take_getD (by omega)]
      intro x hx'
      rcases List.mem_append.1 hx' with h1 | h1
      · exact hx x h1
      · simp at h1; rw [h1]; exact ho
    · rw [decide_eq_false ho]
      refine ⟨?_, rfl⟩
      rw [decide_eq_false]
      · rfl
      · intro hall
        refine ho (hall.1 _ ?_)
        rw [List.getD_eq_getElem?_getD, List.getElem?_eq_getElem (by omega)]
        exact List.getElem_mem _
  · have hall : ∀ x ∈ cs, okC x := by rwa [List.take_of_length_le (by omega)] at hx
    refine CLe.mk (fun h1 => ?_) (fun h1 => ?_)
    · refine CLe.mk (fun h2 => ?_) (fun h2 => ?_)
      · exact ⟨by rw [decide_eq_true (show mayL cs from ⟨hall, by omega, by omega⟩)]; rfl, rfl⟩
      · exact ⟨by rw [decide_eq_false (show ¬ mayL cs from fun hh => by have := hh.2.2; omega)]; rfl, rfl⟩
    · exact ⟨by rw [decide_eq_false (show ¬ mayL cs from fun hh => by have := hh.2.1; omega)]; rfl, rfl⟩

/-- The first j residuals of a predictor with coefficients. -/
def resL (xs cs : List Int) (j : Nat) : List Int := (List.range j).map fun i => xs.getD (cs.length + i) 0 - guessL (xs.take (cs.length + i)) cs
theorem resL_succ (xs cs : List Int) (j : Nat) : resL xs cs (j + 1) = resL xs cs j ++ [xs.getD (cs.length + j) 0 - guessL (xs.take (cs.length + j)) cs] := by
  simp [resL, List.range_succ]
theorem guessL_bd (past cs : List Int) : -4294967296 ≤ guessL past cs ∧ guessL past cs ≤ 4294967296 := by
  unfold guessL
  have h6 := lpc_bd past cs (min (min past.length cs.length) 12)
  have h7 : ((min (min past.length cs.length) 12 : Nat) : Int) * (32768 * 16777216) ≤ 12 * (32768 * 16777216) := Int.mul_le_mul_of_nonneg_right (by omega) (by omega)
  omega

open Classical in
/-- The residuals where they are asked for as they may be. -/
theorem LRes_spec (h : H) (base : Option Addr) (n c : Nat) (xs : List Int) (b2 : Option Addr) (n2 c2 : Nat) (cs : List Int) (hr : Ints h base n xs) (hc : Ints h b2 n2 cs) (hnc : n ≤ c) (hm : mayL cs) (hle : n2 ≤ n) (hk : chk xs = 0) :
    Fn Pg 38 #[.slice base n c, .slice b2 n2 c2] h fun v h' => Only [] h h' ∧ ∃ b1 n1 c1, v = .tuple #[.slice b1 n1 c1, .int .i64 0] ∧ OwnS h' h.size b1 n1 c1 1 ((resL xs cs (n - n2)).map (.int .i64)) := by
  have hl := hr.1
  have hl2 := hc.1
  obtain ⟨hok, h64⟩ := chk_ok hk
  refine g38 (args := [_, _]) ?_
  refine (May_spec h b2 n2 c2 cs hc (by have := hm.2.2; omega)).use ?_
  rintro v h' ⟨rfl, rfl⟩
  rw [decide_eq_true hm]
  refine CLt.f (by omega) ?_
  refine (Check_spec h' base n c xs hr (by omega)).use ?_
  rintro v h1' ⟨rfl, rfl⟩
  rw [hk]
  refine CNe.f rfl ?_
  refine LoopH.mk (σ := Nat × Option Addr × Nat) (fun (j, b, cc) => [(8, .int .i64 ((n2 + j : Nat) : Int)), (7, .slice b j cc)])
    (fun (j, b, cc) h2 => n2 + j ≤ n ∧ Only [] h1' h2 ∧ OwnS h2 h1'.size b j cc 1 ((resL xs cs j).map (.int .i64))) (fun (j, _, _) _ => n - j) (0, none, 0)
    ⟨rfl, rfl, trivial⟩ ⟨by omega, Only.refl _ _, OwnS.nil _ _ _⟩ ?_
  rintro ⟨j, b, cc⟩ h2 g ⟨hj, ho2, hown⟩
  refine CLt.mk (fun hlt => ?_) (fun hge => ?_)
  rotate_left
  · have : j = n - n2 := by omega
    subst this
    exact ⟨ho2, b, _, cc, rfl, hown⟩
  have hr2 := hr.keep0 ho2
  have hcs2 := hc.keep0 ho2
  refine Ix.num hr2 (by omega) (by omega) fun a ha => ?_
  refine Sl.pre (by omega) (by omega) ?_
  have hxb := getD_all (p := fun x => -8388608 ≤ x ∧ x ≤ 8388608) (fun x hx' => by have := hok x hx'; unfold okS at this; omega) (by omega) (n2 + j)
  have hgb := guessL_bd (xs.take (n2 + j)) cs
  have gs := Guess_spec h2 base (n2 + j) c (xs.take (n2 + j)) b2 n2 c2 cs (Nums.take hr2 (by omega)) hcs2 (by omega)
  rw [show (((n2 + j : Nat) : Int)).toNat = n2 + j from by omega] at ha
  rw [show (((n2 + j : Nat) : Int)).toNat = n2 + j from by omega]
  have fin : ∀ (h5 : H) (b5 : Option Addr) (c5 : Nat), OwnS h5 h1'.size b5 (j + 1) c5 1 ((resL xs cs j).map (.int .i64) ++ [.int .i64 (xs.getD (n2 + j) 0 - guessL (xs.take (n2 + j)) cs)]) → Only (blks b) h2 h5 →
      n2 + (j + 1) ≤ n ∧ Only [] h1' h5 ∧ OwnS h5 h1'.size b5 (j + 1) c5 1 ((resL xs cs (j + 1)).map (.int .i64)) := by
    intro h5 b5 c5 ho5 hon5
    refine ⟨by omega, ho2.trans' hon5 fun x hx => .inr (hown.lo x hx), ?_⟩
    rw [resL_succ, List.map_append, hl2]
    exact ho5
  have hlen : (j + 1) * 8 ≤ 2 ^ 46 := by omega
  refine ⟨?_, ?_⟩
  · refine Ld.mk ha ?_
    refine gs.use ?_
    rintro v h3 ⟨rfl, rfl⟩
    refine Ar.fit64 (by omega) ?_
    refine New.app (cs := [.int .i64 _]) hown rfl (by simp [Value.oneCell']) (by decide) rfl hlen (by decide) ho2.size fun r h5 b5 c5 ho5 hon5 _ => ?_
    refine Ar.fit64 (by omega) ?_
    exact ⟨(j + 1, b5, c5), ⟨rfl, rfl, trivial⟩, fin h5 b5 c5 ho5 hon5, by show n - (j + 1) < n - j; omega⟩
  · refine gs.use ?_
    rintro v h3 ⟨rfl, rfl⟩
    refine Ld.mk ha ?_
    refine Ar.fit64 (by omega) ?_
    refine New.app (cs := [.int .i64 _]) hown rfl (by simp [Value.oneCell']) (by decide) rfl hlen (by decide) ho2.size fun r h5 b5 c5 ho5 hon5 _ => ?_
    refine Ar.fit64 (by omega) ?_
    exact ⟨(j + 1, b5, c5), ⟨rfl, rfl, trivial⟩, fin h5 b5 c5 ho5 hon5, by show n - (j + 1) < n - j; omega⟩
end Go.Proofs.Ytaffgkgaoiolbaa.Ov.W
