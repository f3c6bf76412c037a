/-
  WHAT THE FUNCTIONS OF PACKAGE levin DO: that they end, and what shape their results have. No condition beyond each statement's own.
-/
import Derived.Test.YtaffgkgaoiolbaaP5
namespace Go.Proofs.Ytaffgkgaoiolbaa.Ov.W

theorem sq_nn (a : Int) : 0 ≤ a * a := by
  rcases Int.le_total 0 a with h | h
  · exact Int.mul_nonneg h h
  · have := Int.mul_nonneg (a := -a) (b := -a) (by omega) (by omega)
    rwa [Int.neg_mul_neg] at this
theorem getD_set {xs : List Int} {i : Nat} {x : Int} (hi : i < xs.length) : (xs.set i x).getD i 0 = x := by
  rw [List.getD_eq_getElem?_getD, List.getElem?_set_self hi]; rfl

theorem Auto_spec (h : H) (base : Option Addr) (n c : Nat) (xs : List Int) (lags : Nat) (hr : Ints h base n xs) (hk : chk xs = 0) (hlg : lags ≤ 12) :
    Fn Pg 43 #[.slice base n c, .int .i64 lags] h fun v h' => Only [] h h' ∧ ∃ b c1, ∃ ys : List Int, v = .tuple #[.slice b (lags + 1) c1, .int .i64 0] ∧ OwnS h' h.size b (lags + 1) c1 1 (ys.map (.int .i64)) ∧
      (∀ y ∈ ys, -4503599627370496 ≤ y ∧ y ≤ 4503599627370496) ∧ 0 ≤ ys.getD 0 0 := by
  have hl := hr.1
  obtain ⟨hok, h64⟩ := chk_ok hk
  have hxb := fun j => getD_all (p := fun x => -8388608 ≤ x ∧ x ≤ 8388608) (xs := xs) (fun x hx' => by have := hok x hx'; unfold okS at this; omega) (by omega) j
  refine g43 (args := [_, _]) ?_
  refine CLt.f (by omega) ?_
  refine CLt.f (by omega) ?_
  refine (Check_spec h base n c xs hr (by omega)).use ?_
  rintro v h1' ⟨rfl, rfl⟩
  rw [hk]
  refine CNe.f rfl ?_
  refine Ar.fit64 (by omega) ?_
  refine LoopH.mk (σ := Nat × Option Addr × Nat × List Int) (fun (k, b, cc, ys) => [(24, .int .i64 k), (7, .slice b k cc)])
    (fun (k, b, cc, ys) h2 => k ≤ lags + 1 ∧ Only [] h1' h2 ∧ OwnS h2 h1'.size b k cc 1 (ys.map (.int .i64)) ∧ (∀ y ∈ ys, -4503599627370496 ≤ y ∧ y ≤ 4503599627370496) ∧ 0 ≤ ys.getD 0 0)
    (fun (k, _, _, _) _ => lags + 1 - k) (0, none, 0, []) ⟨rfl, rfl, trivial⟩ ⟨by omega, Only.refl _ _, OwnS.nil _ _ _, by simp, by simp⟩ ?_
  rintro ⟨k, b, cc, ys⟩ h2 g ⟨hkl, ho2, hown, hyb, hy0⟩
  refine CLt.mk (fun hlt => ?_) (fun hge => ?_)
  rotate_left
  · have : k = lags + 1 := by omega
    subst this
    exact ⟨ho2, b, cc, ys, rfl, hown, hyb, hy0⟩
  have hr2 := hr.keep0 ho2
  refine LoopH.mk (σ := Nat × Int) (fun (i, s) => [(10, .int .i64 i), (9, .int .i64 s)])
    (fun (i, s) h3 => h3 = h2 ∧ k ≤ i ∧ (i ≤ k ∨ i ≤ n) ∧ -((i - k : Nat) * 70368744177664) ≤ s ∧ s ≤ (i - k : Nat) * 70368744177664 ∧ (k = 0 → 0 ≤ s))
    (fun (i, _) _ => n - i) (k, 0) ⟨rfl, rfl, trivial⟩ ⟨rfl, by omega, by omega, by simp, by simp, by simp⟩ ?_
  rintro ⟨i, s⟩ h3 g2 ⟨rfl, hi0, hi1, hs0, hs1, hs2⟩
  refine CLt.mk (fun hlt2 => ?_) (fun hge2 => ?_)
  · refine Ix.num hr2 (by omega) (by omega) fun a ha => ?_
    refine Ld.mk ha ?_
    refine Ar.fit64 (by omega) ?_
    refine Ix.num hr2 (by omega) (by omega) fun a ha => ?_
    refine Ld.mk ha ?_
    rw [show ((i : Int)).toNat = i from by omega, show ((i : Int) - (k : Int)).toNat = i - k from by omega]
    have hx1 := hxb i
    have hx2 := hxb (i - k)
    have hm := mul_bd (a := xs.getD i 0) (b := xs.getD (i - k) 0) (A := 8388608) (B := 8388608) (by omega) (by omega)
    refine Ar.fit64 (by omega) ?_
    refine Ar.fit64 (by omega) ?_
    refine Ar.fit64 (by omega) ?_
    refine ⟨(i + 1, s + xs.getD i 0 * xs.getD (i - k) 0), ⟨rfl, rfl, trivial⟩, ⟨rfl, by omega, by omega, by omega, by omega, ?_⟩, by show n - (i + 1) < n - i; omega⟩
    intro hk0
    subst hk0
    have := sq_nn (xs.getD i 0)
    have := hs2 rfl
    simp only [Nat.sub_zero]
    omega
  · refine New.app (cs := [.int .i64 _]) hown rfl (by simp [Value.oneCell']) (by decide) rfl (by omega) (by decide) ho2.size fun r h5 b5 c5 ho5 hon5 _ => ?_
    refine Ar.fit64 (by omega) ?_
    refine ⟨(k + 1, b5, c5, ys ++ [s]), ⟨rfl, rfl, trivial⟩, ⟨by omega, ho2.trans' hon5 fun x hx => .inr (hown.lo x hx), ?_, ?_, ?_⟩, by show lags + 1 - (k + 1) < lags + 1 - k; omega⟩
    · rw [List.map_append]; exact ho5
    · intro y hy
      rcases List.mem_append.1 hy with h | h
      · exact hyb y h
      · simp only [List.mem_singleton] at h
        subst h
        omega
    · cases ys with
      | nil => 
        have hk0 : k = 0 := by have := hown.1; simpa using this.symm
        simpa using hs2 hk0
      | cons y r => simpa using hy0

theorem Scaled_spec (h : H) (base : Option Addr) (n c : Nat) (ys : List Int) (hr : Ints h base n ys) (hn : 1 ≤ n ∧ n ≤ 13) (hy : ∀ y ∈ ys, -4503599627370496 ≤ y ∧ y ≤ 4503599627370496) (h0 : 0 ≤ ys.getD 0 0) :
    Fn Pg 44 #[.slice base n c] h fun v h' => Only [] h h' ∧ ∃ b c1, ∃ (zs : List Int) (s : Nat), v = .tuple #[.slice b n c1, .int .i64 s] ∧ OwnS h' h.size b n c1 1 (zs.map (.int .i64)) := by
  have hl := hr.1
  have hyb := fun j => getD_all (p := fun x => -4503599627370496 ≤ x ∧ x ≤ 4503599627370496) (xs := ys) hy (by omega) j
  refine g44 (args := [_]) ?_
  refine CEq.f (by omega) ?_
  refine Ix.num hr (by omega) (by omega) fun a ha => ?_
  refine Ld.mk ha ?_
  refine CLt.f h0 ?_
  refine LoopH.mk (σ := Nat) (fun i => [(21, .int .i64 i)]) (fun i h2 => i ≤ n ∧ h2 = h) (fun i _ => n - i) 0 ⟨rfl, trivial⟩ ⟨by omega, rfl⟩ ?_
  rintro i h2 g ⟨hi, rfl⟩
  refine CLt.mk (fun hlt => ?_) (fun hge => ?_)
  · refine Ix.num hr (by omega) (by omega) fun a ha => ?_
    refine Ld.mk ha ?_
    have := hyb ((i : Int)).toNat
    refine CLt.f (by omega) ?_
    refine CLt.f (by omega) ?_
    refine Ar.fit64 (by omega) ?_
    exact ⟨i + 1, ⟨rfl, trivial⟩, ⟨by omega, rfl⟩, by omega⟩
  refine LoopH.mk (σ := Nat) (fun s => [(6, .int .i64 s)]) (fun s h3 => s ≤ 31 ∧ h3 = h2) (fun s _ => 31 - s) 0 ⟨rfl, trivial⟩ ⟨by omega, rfl⟩ ?_
  rintro s h3 g ⟨hs, rfl⟩
  refine Ix.num hr (by omega) (by omega) fun a ha => ?_
  refine Ld.mk ha ?_
  refine Shr.any (by omega) fun m hm => ?_
  refine CLe.mk (fun hlt => ?_) (fun hge => ?_)
  · refine Ar.fit64 (by omega) ?_
    refine ⟨s + 1, ⟨rfl, trivial⟩, ⟨?_, rfl⟩, ?_⟩
    all_goals
      by_cases h31 : s = 31
      · subst h31
        have hb := hyb 0
        simp only [IntKind.bits] at hm
        rw [Int.fdiv_eq_ediv_of_nonneg _ (Int.pow_nonneg (by omega))] at hm
        simp at hm
        simp at hb
        omega
      · omega
  · refine LoopH.mk (σ := Nat × Option Addr × Nat × List Int) (fun (i, b, cc, zs) => [(42, .int .i64 i), (7, .slice b i cc)])
      (fun (i, b, cc, zs) h4 => i ≤ n ∧ Only [] h3 h4 ∧ OwnS h4 h3.size b i cc 1 (zs.map (.int .i64))) (fun (i, _, _, _) _ => n - i) (0, none, 0, []) ⟨rfl, rfl, trivial⟩ ⟨by omega, Only.refl _ _, OwnS.nil _ _ _⟩ ?_
    rintro ⟨i, b, cc, zs⟩ h4 g ⟨hi, ho, hown⟩
    refine CLt.mk (fun hlt2 => ?_) (fun hge2 => ?_)
    · refine Ix.num (hr.keep0 ho) (by omega) (by omega) fun a ha => ?_
      refine Ld.mk ha ?_
      refine Shr.any (by omega) fun m2 hm2 => ?_
      refine New.app (cs := [.int .i64 _]) hown rfl (by simp [Value.oneCell']) (by decide) rfl (by omega) (by decide) ho.size fun r h5 b5 c5 ho5 hon5 _ => ?_
      refine Ar.fit64 (by omega) ?_
      refine ⟨(i + 1, b5, c5, zs ++ [m2]), ⟨rfl, rfl, trivial⟩, ⟨by omega, ho.trans' hon5 fun x hx => .inr (hown.lo x hx), ?_⟩, by show n - (i + 1) < n - i; omega⟩
      rw [List.map_append]; exact ho5
    · have : i = n := by omega
      subst this
      exact ⟨ho, b, cc, zs, s, rfl, hown⟩

theorem floor_spec (h : H) (a b : Int) (hb : b ≠ 0) : Fn Pg 45 #[.int .i64 a, .int .i64 b] h fun v h' => ∃ q, v = .int .i64 q ∧ h' = h := by
  refine g45 (args := [_, _]) ?_
  refine Quo.any hb fun m _ => ?_
  refine Rem.any hb fun m2 _ => ?_
  refine CLt.mk (fun hlt => ?_) (fun hge => ?_)
  · refine Ar.any fun m3 _ => ?_
    exact ⟨_, rfl, rfl⟩
  · exact ⟨_, rfl, rfl⟩

theorem LCoef_spec (h : H) (base : Option Addr) (n c : Nat) (xs : List Int) (order : Nat) (hr : Ints h base n xs) (hk : chk xs = 0) (ho : 1 ≤ order ∧ order ≤ 12) :
    Fn Pg 37 #[.slice base n c, .int .i64 order] h fun v h' => Only [] h h' ∧
      ((∃ b c1, ∃ cs : List Int, v = .tuple #[.slice b order c1, .bool true] ∧ Ints h' b order cs ∧ order ≤ c1 ∧ mayL cs ∧ order < n ∧ ∀ b' ∈ blks b, h.size ≤ b') ∨ v = .tuple #[.slice none 0 0, .bool false]) := by
  have hl := hr.1
  obtain ⟨hok, h64⟩ := chk_ok hk
  refine g37 (args := [_, _]) ?_
  refine CLt.f (by omega) ?_
  refine CLt.f (by omega) ?_
  refine (Check_spec h base n c xs hr (by omega)).use ?_
  rintro v h1 ⟨rfl, rfl⟩
  rw [hk]
  refine CNe.f rfl ?_
  refine CLe.mk (fun hle => ?_) (fun hlt => ?_)
  · exact ⟨Only.refl _ _, .inr rfl⟩
  refine (Auto_spec h1 base n c xs order hr hk ho.2).use ?_
  rintro v h2 ⟨ho2, b2, c2, ys, rfl, hown2, hyb, hy0⟩
  refine (Scaled_spec h2 b2 (order + 1) c2 ys hown2.nums (by omega) hyb hy0).use ?_
  rintro v h3 ⟨ho3, b3, c3, zs, s, rfl, hown3⟩
  refine Ix.num hown3.nums (by omega) (by omega) fun a ha => ?_
  refine Ld.mk ha ?_
  refine Ar.fit64 (by omega) ?_
  refine Mk.own (by omega) (by omega) (by omega) fun h4 hown4 ho4 hs4 => ?_
  have hza : Ints h4 b3 (order + 1) zs := (hown3.keep0 ho4).nums
  have hzlt := hown3.lt
  have h24 : Only [] h1 h4 := (ho2.trans ho3).trans ho4
  rw [show ((order : Int) + 1).toNat = order + 1 from by omega] at hown4 ⊢
  have hrep : List.replicate (order + 1) (Value.int .i64 0) = (List.replicate (order + 1) (0 : Int)).map (.int .i64) := by simp
  rw [hrep] at hown4
  refine LoopH.mk (σ := Nat × Int × List Int) (fun (i, e, ws) => [(12, .int .i64 i), (10, .int .i64 e)])
    (fun (i, e, ws) h5 => 1 ≤ i ∧ i ≤ order + 1 ∧ Only [h3.size] h4 h5 ∧ OwnS h5 h3.size (some ⟨h3.size, 0, none⟩) (order + 1) (order + 1) 1 (ws.map (.int .i64)))
    (fun (i, _, _) _ => order + 1 - i) (1, _, _) ⟨rfl, rfl, trivial⟩ ⟨by omega, by omega, Only.refl _ _, hown4⟩ ?_
  rintro ⟨i, e, ws⟩ h5 g ⟨hi1, hi2, ho5, hown5⟩
  have hz5 : Ints h5 b3 (order + 1) zs := hza.keep ho5 fun b hb => by have := hzlt b hb; simp; omega
  have h15 : Only [] h1 h5 := h24.trans' ho5 fun x hx => by have := ho2.size; have := ho3.size; simp at hx; omega
  refine CLe.mk (fun hle => ?_) (fun hgt => ?_)
  · refine CLt.mk (fun h6 => ?_) (fun h6 => ?_)
    · exact ⟨h15, .inr rfl⟩
    refine Ix.num hz5 (by omega) (by omega) fun a ha => ?_
    refine Ld.mk ha ?_
    refine Ar.any fun m _ => ?_
    refine LoopH.mk (σ := Nat × Int) (fun (j, k) => [(14, .int .i64 j), (13, .int .i64 k)]) (fun (j, k) h6 => 1 ≤ j ∧ j ≤ i ∧ h6 = h5) (fun (j, _) _ => i - j) (1, m) ⟨rfl, rfl, trivial⟩ ⟨by omega, by omega, rfl⟩ ?_
    rintro ⟨j, k⟩ h6' g ⟨hj1, hj2, rfl⟩
    refine CLt.mk (fun hlt2 => ?_) (fun hge2 => ?_)
    · refine Ix.num hown5.nums (by omega) (by omega) fun a ha => ?_
      refine Ld.mk ha ?_
      refine Ar.fit64 (by omega) ?_
      refine Ix.num hz5 (by omega) (by omega) fun a ha => ?_
      refine Ld.mk ha ?_
      refine Ar.any fun m2 _ => ?_
      refine Ar.any fun m3 _ => ?_
      refine Ar.fit64 (by omega) ?_
      exact ⟨(j + 1, m3), ⟨rfl, rfl, trivial⟩, ⟨by omega, by omega, rfl⟩, by show i - (j + 1) < i - j; omega⟩
    refine (floor_spec h6' k e (by omega)).use ?_
    rintro v h7 ⟨q, rfl, rfl⟩
    refine App.own (OwnS.nil h7 h7.size 1) hown5.rds (by simpa using hown5.1) (by simp [Value.oneCell']) (by decide) rfl (by omega) (by decide) (Nat.le_refl _) fun h8 b8 c8 hown8 ho8 hbl8 => ?_
    have ho8' : Only [] h7 h8 := ho8
    have hown8' : OwnS h8 h7.size b8 (order + 1) c8 1 (ws.map (.int .i64)) := by simpa using hown8
    have hlt8 : h3.size < h7.size := by have := (hown5.lt h3.size (by simp [blks])); exact this
    refine LoopH.mk (σ := Nat × List Int) (fun (j, us) => [(16, .int .i64 j)]) (fun (j, us) h9 => 1 ≤ j ∧ j ≤ i ∧ Only [h3.size] h8 h9 ∧ OwnS h9 h3.size (some ⟨h3.size, 0, none⟩) (order + 1) (order + 1) 1 (us.map (.int .i64)))
      (fun (j, _) _ => i - j) (1, ws) ⟨rfl, trivial⟩ ⟨by omega, by omega, Only.refl _ _, hown5.keep0 ho8'⟩ ?_
    rintro ⟨j, us⟩ h9 g ⟨hj1, hj2, ho9, hown9⟩
    have hold9 : Ints h9 b8 (0 + (order + 1)) ws := by
      rw [Nat.zero_add]
      exact (hown8'.nums).keep ho9 fun b hb => by have := hown8'.lo b hb; simp; omega
    refine CLt.mk (fun hlt2 => ?_) (fun hge2 => ?_)
    · refine Ix.num hold9 (by omega) (by omega) fun a ha => ?_
      refine Ld.mk ha ?_
      refine Ar.fit64 (by omega) ?_
      refine Ix.num hold9 (by omega) (by omega) fun a ha => ?_
      refine Ld.mk ha ?_
      refine Ar.any fun m2 _ => ?_
      refine Shr.any (by omega) fun m3 _ => ?_
      refine Ar.any fun m4 _ => ?_
      obtain ⟨bb, hbb, hcc, hput⟩ := hown9.put (i := j) (by omega)
      injection hbb with hbb
      injection hbb with hbb
      subst hbb
      refine Ix.own (j := j) (by omega) (by omega) rfl (by omega) ?_
      refine hput _ _ fun h10 hown10 ho10 hs10 => ?_
      refine Ar.fit64 (by omega) ?_
      exact ⟨(j + 1, us.set j m4), ⟨rfl, trivial⟩, ⟨by omega, by omega, ho9.trans ho10, hown10⟩, by show i - (j + 1) < i - j; omega⟩
    · obtain ⟨bb, hbb, hcc, hput⟩ := hown9.put (i := i) (by omega)
      injection hbb with hbb
      injection hbb with hbb
      subst hbb
      refine Ix.own (j := i) (by omega) (by omega) rfl (by omega) ?_
      refine hput _ _ fun h10 hown10 ho10 hs10 => ?_
      refine Ar.any fun m1 _ => ?_
      refine Shr.any (by omega) fun m2 _ => ?_
      refine Ar.any fun m3 _ => ?_
      refine Shr.any (by omega) fun m4 _ => ?_
      refine Ar.any fun m5 _ => ?_
      refine Ar.fit64 (by omega) ?_
      refine ⟨(i + 1, m5, _), ⟨rfl, rfl, trivial⟩, ⟨by omega, by omega, ?_, hown10⟩, by show order + 1 - (i + 1) < order + 1 - i; omega⟩
      exact ho5.trans ((ho8'.nil.trans ho9).trans ho10)
  · refine Sl.suf (vs := ws.map (.int .i64)) hown5.rds (by simpa using hown5.1) (by omega) (by omega) (by omega) fun b6 hr6 hb6 _ => ?_
    have hlen : ws.length = order + 1 := by simpa using hown5.1
    have hn6 : Ints h5 b6 order (ws.drop 1) := ⟨by simp; omega, by simpa [List.map_drop] using hr6⟩
    have hlo6 : ∀ b' ∈ blks b6, h1.size ≤ b' := fun b' hb' => by have := ho2.size; have := ho3.size; have := hb6 b' hb'; simp [blks] at this; omega
    rw [show order + 1 - (1 : Int).toNat = order from by simp]
    refine LoopH.mk (σ := Nat) (fun i => [(128, .int .i64 i)]) (fun i h6 => i ≤ order ∧ (∀ x ∈ (ws.drop 1).take i, okC x) ∧ h6 = h5) (fun i _ => order - i) 0 ⟨rfl, trivial⟩ ⟨by omega, by simp, rfl⟩ ?_
    rintro i2 h6 g ⟨hi, hx, rfl⟩
    refine CLt.mk (fun hlt2 => ?_) (fun hge2 => ?_)
    · refine Ix.num hn6 (by omega) (by omega) fun a ha => ?_
      refine Ld.mk ha ?_
      refine CLt.mk (fun h7 => ⟨h15, .inr rfl⟩) (fun h7 => ?_)
      refine CLt.mk (fun h8 => ⟨h15, .inr rfl⟩) (fun h8 => ?_)
      refine Ar.fit64 (by omega) ?_
      refine ⟨i2 + 1, ⟨rfl, trivial⟩, ⟨by omega, ?_, rfl⟩, by omega⟩
      rw [take_getD (by simp; omega)]
      intro x hx'
      rcases List.mem_append.1 hx' with h9 | h9
      · exact hx x h9
      · rw [show ((i2 : Int)).toNat = i2 from by omega] at h7 h8
        rw [List.mem_singleton.1 h9]
        exact ⟨by omega, by omega⟩
    · refine Sl.suf (vs := ws.map (.int .i64)) hown5.rds (by simpa using hown5.1) (by omega) (by omega) (by omega) fun b7 hr7 hb7 _ => ?_
      have hn7 : Ints h6 b7 order (ws.drop 1) := ⟨by simp; omega, by simpa [List.map_drop] using hr7⟩
      have hlo7 : ∀ b' ∈ blks b7, h1.size ≤ b' := fun b' hb' => by have := ho2.size; have := ho3.size; have := hb7 b' hb'; simp [blks] at this; omega
      rw [show order + 1 - (1 : Int).toNat = order from by simp]
      refine ⟨h15, .inl ⟨b7, order, ws.drop 1, rfl, hn7, Nat.le_refl _, ⟨?_, by simp; omega, by simp; omega⟩, by omega, hlo7⟩⟩
      rwa [List.take_of_length_le (by simp; omega)] at hx
end Go.Proofs.Ytaffgkgaoiolbaa.Ov.W
