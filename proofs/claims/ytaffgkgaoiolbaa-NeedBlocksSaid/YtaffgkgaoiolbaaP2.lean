/-
  WHAT THE FUNCTIONS OF PACKAGE rice DO (the writing side). No condition beyond each statement's own.
-/
import Derived.Test.YtaffgkgaoiolbaaP1
namespace Go.Proofs.Ytaffgkgaoiolbaa.Ov.W

def zig (n : Int) : Int := if n < -1099511627776 ∨ 1099511627776 ≤ n then 0 else if n < 0 then -2 * n - 1 else 2 * n

theorem Zig_spec (h : H) (n : Int) : Fn Pg 34 #[.int .i64 n] h fun v h' => v = .int .i64 (zig n) ∧ h' = h := by
  refine g34 (args := [_]) ?_
  refine CLt.mk (fun h1 => ?_) (fun h1 => ?_)
  · exact ⟨by rw [zig, if_pos (.inl h1)]; rfl, rfl⟩
  refine CLe.mk (fun h2 => ?_) (fun h2 => ?_)
  · exact ⟨by rw [zig, if_pos (.inr h2)]; rfl, rfl⟩
  have h0 : ¬ (n < -1099511627776 ∨ 1099511627776 ≤ n) := by omega
  refine CLt.mk (fun h3 => ?_) (fun h3 => ?_)
  · refine Ar.fit64 (by omega) ?_
    refine Ar.fit64 (by omega) ?_
    exact ⟨by rw [zig, if_neg h0, if_pos h3]; rfl, rfl⟩
  · refine Ar.fit64 (by omega) ?_
    exact ⟨by rw [zig, if_neg h0, if_neg (by omega)]; rfl, rfl⟩

def mayR (z k : Int) : Prop := 0 ≤ z ∧ z < 4294967296 ∧ 0 ≤ k ∧ k ≤ 24
instance (z k : Int) : Decidable (mayR z k) := by unfold mayR; infer_instance

theorem may_spec (h : H) (z k : Int) : Fn Pg 40 #[.int .i64 z, .int .i64 k] h fun v h' => v = .bool (decide (mayR z k)) ∧ h' = h := by
  refine g40 (args := [_, _]) ?_
  refine CLe.mk (fun h1 => ?_) (fun h1 => ?_)
  · refine CLt.mk (fun h2 => ?_) (fun h2 => ?_)
    · refine CLe.mk (fun h3 => ?_) (fun h3 => ?_)
      · refine CLe.mk (fun h4 => ?_) (fun h4 => ?_)
        · exact ⟨by rw [decide_eq_true (show mayR z k from ⟨h1, h2, h3, h4⟩)]; rfl, rfl⟩
        · exact ⟨by rw [decide_eq_false (show ¬ mayR z k from fun h => by unfold mayR at h; omega)]; rfl, rfl⟩
      · exact ⟨by rw [decide_eq_false (show ¬ mayR z k from fun h => by unfold mayR at h; omega)]; rfl, rfl⟩
    · exact ⟨by rw [decide_eq_false (show ¬ mayR z k from fun h => by unfold mayR at h; omega)]; rfl, rfl⟩
  · exact ⟨by rw [decide_eq_false (show ¬ mayR z k from fun h => by unfold mayR at h; omega)]; rfl, rfl⟩

theorem shr_nn {z : Int} {k : Int} (hz : 0 ≤ z) (hk : 0 ≤ k) (hk2 : k ≤ 64) : z.fdiv (2 ^ min k.toNat IntKind.i64.bits) = z / 2 ^ k.toNat := by
  rw [show min k.toNat IntKind.i64.bits = k.toNat from by show min _ 64 = _; omega, Int.fdiv_eq_ediv_of_nonneg _ (Int.pow_nonneg (by omega))]
theorem div_bd {z : Int} (hz : 0 ≤ z) (k : Nat) : 0 ≤ z / 2 ^ k ∧ z / 2 ^ k ≤ z :=
  ⟨Int.ediv_nonneg hz (Int.pow_nonneg (by omega)), Int.ediv_le_self _ hz⟩

theorem Size_spec (h : H) (z k : Int) : Fn Pg 41 #[.int .i64 z, .int .i64 k] h fun v h' => ∃ m, v = .int .i64 m ∧ h' = h := by
  refine g41 (args := [_, _]) ?_
  refine (may_spec h z k).use ?_
  rintro v h' ⟨rfl, rfl⟩
  by_cases hm : mayR z k
  · rw [decide_eq_true hm]
    unfold mayR at hm
    refine Shr.any (by omega) fun x hx => ?_
    rw [shr_nn (by omega) (by omega) (by omega)] at hx
    refine CLt.mk (fun h3 => ?_) (fun h3 => ?_)
    · refine Shr.any (by omega) fun y hy => ?_
      refine Ar.any fun a _ => ?_
      refine Ar.any fun b _ => ?_
      exact ⟨_, rfl, rfl⟩
    · exact ⟨_, rfl, rfl⟩
  · rw [decide_eq_false hm]
    exact ⟨_, rfl, rfl⟩

theorem Best_spec (h : H) (base : Option Addr) (n c : Nat) (xs : List Int) (hr : Ints h base n xs) (hn : n ≤ 2 ^ 40) :
    Fn Pg 35 #[.slice base n c] h fun v h' => ∃ k s : Int, v = .tuple #[.int .i64 k, .int .i64 s] ∧ 0 ≤ k ∧ k ≤ 24 ∧ h' = h := by
  refine g35 (args := [_]) ?_
  have hl := hr.1
  -- all may be written?
  refine seq_join (σ := Unit) (fun _ => [(0, .slice base n c), (2, .int .i64 0), (3, .int .i64 0)]) (fun _ h' => h' = h) ?_ ?_
  · exact ⟨(), ⟨rfl, rfl, rfl, trivial⟩, rfl⟩
  rintro _ h' g rfl
  refine seq_join (σ := Unit) (fun _ => [(0, .slice base n c), (2, .int .i64 0), (3, .int .i64 0)]) (fun _ h2 => h2 = h') ?_ ?_
  · refine LoopH.mk (σ := Nat) (fun i => [(12, .int .i64 i), (2, .int .i64 0), (3, .int .i64 0)]) (fun i h2 => i ≤ n ∧ h2 = h') (fun i _ => n - i) 0 ⟨rfl, rfl, rfl, trivial⟩ ⟨by omega, rfl⟩ ?_
    rintro i h2 g ⟨hi, rfl⟩
    refine CLt.mk (fun hlt => ?_) (fun hge => ?_)
    · refine Ix.num hr (by omega) (by omega) fun a ha => ?_
      refine Ld.mk ha ?_
      refine (may_spec _ _ _).use ?_
      rintro v h3 ⟨rfl, rfl⟩
      cases decide (mayR (xs.getD (i : Int).toNat 0) 0)
      · exact ⟨0, 0, rfl, by omega, by omega, rfl⟩
      · refine Ar.fit64 (by omega) ?_
        exact ⟨i + 1, ⟨rfl, rfl, rfl, trivial⟩, ⟨by omega, rfl⟩, by omega⟩
    · exact ⟨(), ⟨rfl, rfl, rfl, trivial⟩, rfl⟩
  rintro _ h2 g rfl
  refine LoopH.mk (σ := Nat × Int × Int) (fun (i, k, s) => [(20, .int .i64 i), (2, .int .i64 k), (3, .int .i64 s)]) (fun (i, k, s) h3 => i ≤ 25 ∧ 0 ≤ k ∧ k ≤ 24 ∧ h3 = h2) (fun (i, _, _) _ => 25 - i) (0, 0, 0) ⟨rfl, rfl, rfl, trivial⟩ ⟨by omega, by omega, by omega, rfl⟩ ?_
  rintro ⟨i, k, s⟩ h3 g ⟨hi, hk0, hk1, rfl⟩
  refine CLt.mk (fun hlt => ?_) (fun hge => ?_)
  rotate_left
  · exact ⟨k, s, rfl, hk0, hk1, rfl⟩
  refine dL_nil ?_
  refine dC_on rfl ?_
  refine seq_join (σ := Int × Int) (fun (k, s) => [(0, .slice base n c), (20, .int .i64 i), (2, .int .i64 k), (3, .int .i64 s)]) (fun (k, s) h4 => 0 ≤ k ∧ k ≤ 24 ∧ h4 = h3) ?_ ?_
  rotate_left
  · rintro ⟨k2, s2⟩ h4 g ⟨h0, h1, rfl⟩
    refine Ar.fit64 (by omega) ?_
    exact ⟨(i + 1, k2, s2), ⟨rfl, rfl, rfl, trivial⟩, ⟨by omega, h0, h1, rfl⟩, by show 25 - (i + 1) < 25 - i; omega⟩
  refine LoopH.mk (σ := Nat × Int) (fun (j, m) => [(25, .int .i64 j), (7, .int .i64 m)]) (fun (j, m) h4 => j ≤ n ∧ h4 = h3) (fun (j, _) _ => n - j) (0, 0) ⟨rfl, rfl, trivial⟩ ⟨by omega, rfl⟩ ?_
  rintro ⟨j, m⟩ h4 g ⟨hj, rfl⟩
  refine CLt.mk (fun hlt2 => ?_) (fun hge2 => ?_)
  · refine Ix.num hr (by omega) (by omega) fun a ha => ?_
    refine Ld.mk ha ?_
    refine (Size_spec _ _ _).use ?_
    rintro v h5 ⟨q, rfl, rfl⟩
    refine Ar.any fun m2 _ => ?_
    refine Ar.fit64 (by omega) ?_
    exact ⟨(j + 1, m2), ⟨rfl, rfl, trivial⟩, ⟨by omega, rfl⟩, by show n - (j + 1) < n - j; omega⟩
  · refine CEq.mk (fun he => ?_) (fun he => ?_)
    · exact ⟨((i : Int), m), ⟨rfl, rfl, rfl, rfl, trivial⟩, by omega, by omega, rfl⟩
    · refine CLt.mk (fun h5 => ?_) (fun h5 => ?_)
      · exact ⟨((i : Int), m), ⟨rfl, rfl, rfl, rfl, trivial⟩, by omega, by omega, rfl⟩
      · exact ⟨(k, s), ⟨rfl, rfl, rfl, rfl, trivial⟩, hk0, hk1, rfl⟩

/-- The code of a number. -/
def riceBits (z k : Int) : List Bool :=
  if z / 2 ^ k.toNat < 24 then List.replicate (z / 2 ^ k.toNat).toNat true ++ [false] ++ nb k.toNat z else nb 24 16777215 ++ nb 32 z
theorem riceBits_le (z k : Int) (hk : k ≤ 24) : (riceBits z k).length ≤ 80 := by
  unfold riceBits
  split
  · simp [nb_length]; omega
  · simp [nb_length]

theorem RPut_spec (h : H) (p : Nat) (W : List Nat) (l : List Bool) (z k : Int) (hw : Wr h p W l) (hl : l.length + 2000 < 2 ^ 40) :
    Fn Pg 36 #[.pointer (some ⟨p, 0, none⟩), .int .i64 z, .int .i64 k] h fun r h' => (¬ mayR z k ∧ r = .bool false ∧ h' = h) ∨ (mayR z k ∧ r = .bool true ∧ WrUp h p W (l ++ riceBits z k) h') := by
  refine g36 (args := [_, _, _]) ?_
  refine (may_spec h z k).use ?_
  rintro v h' ⟨rfl, rfl⟩
  by_cases hm : mayR z k
  · rw [decide_eq_true hm]
    have hm' := hm
    unfold mayR at hm
    have hbd := div_bd hm.1 k.toNat
    refine Shr.any (by omega) fun x hx => ?_
    rw [shr_nn (by omega) (by omega) (by omega)] at hx
    refine CLt.mk (fun h3 => ?_) (fun h3 => ?_)
    · refine (Ones_spec h' p W l x hw (by omega) (by omega) (by omega)).use ?_
      rintro v h1 ⟨rfl, W1, hw1, ho1, hb1⟩
      refine (Put_spec h1 p W1 _ z k hw1 (by simp; omega) (by omega) (by omega)).use ?_
      rintro v h2 ⟨rfl, hu⟩
      refine .inr ⟨hm', rfl, ?_⟩
      have := WrUp.step ho1 hb1 hu
      rw [riceBits, if_pos (by omega), ← hx]
      simpa [List.append_assoc] using this
    · refine (Put_spec h' p W l 16777215 24 hw (by omega) (by omega) (by omega)).use ?_
      rintro v h1 ⟨rfl, W1, hw1, ho1, hb1⟩
      refine (Put_spec h1 p W1 _ z 32 hw1 (by simp [nb_length]; omega) (by omega) (by omega)).use ?_
      rintro v h2 ⟨rfl, hu⟩
      refine .inr ⟨hm', rfl, ?_⟩
      have := WrUp.step ho1 hb1 hu
      rw [riceBits, if_neg (by omega), ← List.append_assoc]
      exact this
  · rw [decide_eq_false hm]
    exact .inl ⟨hm, rfl, rfl⟩
end Go.Proofs.Ytaffgkgaoiolbaa.Ov.W
